/- wal.more, walked. -/
import Derived.Test.YtipbfmalacnmkaaGreatAnew2
namespace Go.Proofs.YtipbfmalacnmkaaGreat
open Go.RowKit Go.Shelf

def mK (k : Dk) (b : List UInt8) : Nat → Dk
  | 0 => k
  | 1 => (k.append .wal b).2
  | _ => ((k.append .wal b).2.sync .wal).2
def mR (k : Dk) (b : List UInt8) : Nat → Int
  | 0 => (k.append .wal b).1
  | 1 => ((k.append .wal b).2.sync .wal).1
  | _ => 0
def mF : Nat → Nat
  | 0 => 63 | 1 => 64 | _ => 65
def mC (c0 c1 : Nat) : Nat → Array Value
  | 0 => #[.pointer (some ⟨c0, 0, none⟩), .pointer (some ⟨c1, 0, none⟩)]
  | 1 => #[.pointer (some ⟨c0, 0, none⟩)]
  | _ => #[.pointer (some ⟨c0, 0, none⟩), .pointer (some ⟨c1, 0, none⟩)]

theorem more_chain {W : World} {d m g : Nat} {k : Dk} {T V : Int} {lv : Value} {sz : Nat} {down : Bool} (hd : DiskAt W d m k) (hfu : k.fuseOk) (hw : WalRow W g d T V lv sz down) (c0 c1 bb : Nat) (ab : Option Addr) (cb : Nat) (b : List UInt8)
    (p0 : W.cell? ⟨c0, 0, none⟩ = some (.pointer (some ⟨g, 0, none⟩))) (p1 : W.cell? ⟨c1, 0, none⟩ = some (.slice ab b.length cb)) (l0 : c0 < W.heap.size) (l1 : c1 < W.heap.size) (lb : bb < W.heap.size)
    (n0 : c0 ≠ d ∧ c0 ≠ m ∧ c0 ≠ g) (n1 : c1 ≠ d ∧ c1 ≠ m ∧ c1 ≠ g) (nb : bb ≠ d ∧ bb ≠ m ∧ bb ≠ g) (ng : g ≠ d ∧ g ≠ m)
    (hcell : ∀ i, i < 3 → W.cell? ⟨bb, i, none⟩ = some (.func (.func (mF i)) #[] (mC c0 c1 i))) (hb : RdB W.heap.size W (.slice ab b.length cb) b) (hsz : (k.get .wal).b.length + b.length ≤ 1099511627776) (hs2 : sz ≤ 1099511627776) :
    Calls Tryz.prog 56 #[.slice (some ⟨bb, 0, none⟩) 3 3] W fun e w' => e = .returned (.int .i64 (k.more b).1) ∧ DiskAt w' d m (k.more b).2 ∧ Ext [d, m, g] W w' ∧ WalRow w' g d T V lv (if (k.more b).1 = 0 then sz + b.length else sz) down := by
  have hMn : ∀ {c : Nat}, c ≠ d ∧ c ≠ m ∧ c ≠ g → c ∉ [d, m, g] := fun h => by simp; omega
  have h5 : ∀ q ∈ [d, m, g], ∀ cur fz, W.heap[q]? ≠ some (.cells cur 5 fz) := by
    intro q hq cur fz hc
    simp only [List.mem_cons, List.not_mem_nil, or_false] at hq
    obtain ⟨gm, hrow, hmap, _⟩ := id hd
    rcases hq with rfl | rfl | rfl
    · rw [hrow] at hc; cases hc
    · obtain ⟨es, clock, hblk⟩ := hmap.block; rw [hblk] at hc; cases hc
    · unfold WalRow at hw; rw [hw] at hc; cases hc
  refine (chain_calls bb 3 mF (mC c0 c1) (fun i w' => DiskAt w' d m (mK k b i) ∧ Ext [d, m, g] W w' ∧ WalRow w' g d T V lv (if i = 3 then sz + b.length else sz) down) (mR k b) (by omega) ?en ?cell ?step W ⟨hd, Ext.refl _ _, hw⟩).mono ?post
  case en =>
    intro i hi
    obtain rfl | rfl | rfl : i = 0 ∨ i = 1 ∨ i = 2 := by omega
    · exact enter63
    · exact enter64
    · exact enter65
  case cell =>
    rintro i j W' ⟨_, hx, _⟩ hi
    exact (hx.cellAt lb (hMn nb)).trans (hcell i hi)
  case step =>
    rintro i W' hi hz ⟨hD, hx, hr⟩
    have q0 := hr.c0
    have s0 := (hx.cellAt l0 (hMn n0)).trans p0
    have s1 := (hx.cellAt l1 (hMn n1)).trans p1
    have hb' : RdB W'.heap.size W' (.slice ab b.length cb) b := RdB.mono (Rd.extM hb hx h5) hx.size
    have hgo : ∀ w2, Ext [d, m] W' w2 → Ext [d, m, g] W w2 := fun w2 h => hx.cut h (by simp)
    have hwr : ∀ w2, Ext [d, m] W' w2 → WalRow w2 g d T V lv (if i = 3 then sz + b.length else sz) down := fun w2 h => hr.ext h (by simp; omega)
    obtain rfl | rfl | rfl : i = 0 ∨ i = 1 ∨ i = 2 := by omega
    · exact (more1_calls hD hfu c0 c1 g _ b s0 q0 s1 hb' hsz).mono (fun e w2 ⟨h1, h2, h3⟩ => ⟨h1, h2, hgo w2 h3, hwr w2 h3⟩)
    · exact (more2_calls hD (Dk.fuse_append hfu) c0 g s0 q0).mono (fun e w2 ⟨h1, h2, h3⟩ => ⟨h1, h2, hgo w2 h3, hwr w2 h3⟩)
    · refine (more3_calls c0 c1 g ab b.length cb sz s0 s1 hr.c4 (hr.f 4) (by omega) hs2).mono ?_
      rintro e w2 ⟨rfl, rfl⟩
      have hxg : Ext [g] W' (W'.drew.setCell ⟨g, 4, none⟩ (.int .i64 (sz + b.length : Nat))) := ((Ext.refl [g] W').drewN 1).setCell (p := ⟨g, 4, none⟩) (.inl (by simp)) _
      refine ⟨rfl, DiskAt.ext hD hxg ?_, hx.cut hxg (by simp), WalRow.size (w := W'.drew) hr _⟩
      intro q hq
      rw [List.mem_singleton] at hq
      subst hq
      exact ⟨ng.1, ng.2, fun cur fz hc => by unfold WalRow at hr; rw [hr] at hc; cases hc⟩
  case post =>
    rintro e w' (⟨rfl, ⟨h1, h2, h3⟩, hz⟩ | ⟨i, hi, rfl, hr, ⟨h1, h2, h3⟩, hz⟩)
    · have e0 : (k.append .wal b).1 = 0 := hz 0 (by omega)
      have e1 : ((k.append .wal b).2.sync .wal).1 = 0 := hz 1 (by omega)
      have ha : k.more b = (k.append .wal b).2.sync .wal := by simp [Dk.more, Dk.andThen, e0]
      rw [ha, e1]
      exact ⟨rfl, h1, h2, h3⟩
    · have h3' : WalRow w' g d T V lv sz down ∨ i = 2 := by
        by_cases h4 : i = 2
        · exact .inr h4
        · rw [if_neg (by omega)] at h3; exact .inl h3
      obtain rfl | rfl | rfl : i = 0 ∨ i = 1 ∨ i = 2 := by omega
      · have hr' : (k.append .wal b).1 ≠ 0 := hr
        have ha : k.more b = k.append .wal b := by simp [Dk.more, Dk.andThen, hr']
        rw [ha, if_neg hr']
        exact ⟨rfl, h1, h2, h3'.resolve_right (by omega)⟩
      · have e0 : (k.append .wal b).1 = 0 := hz 0 (by omega)
        have hr' : ((k.append .wal b).2.sync .wal).1 ≠ 0 := hr
        have ha : k.more b = (k.append .wal b).2.sync .wal := by simp [Dk.more, Dk.andThen, e0]
        rw [ha, if_neg hr']
        exact ⟨rfl, h1, h2, h3'.resolve_right (by omega)⟩
      · exact absurd rfl hr

set_option maxRecDepth 10000 in
set_option maxHeartbeats 1000000 in
theorem more_calls {w : World} {d m g : Nat} {k : Dk} {T V : Int} {lv : Value} {sz : Nat} {down : Bool} (hd : DiskAt w d m k) (hfu : k.fuseOk) (hw : WalRow w g d T V lv sz down) (bv : Value) (b : List UInt8) (hb : RdB w.heap.size w bv b) (hsz : (k.get .wal).b.length + b.length ≤ 1099511627776) (hs2 : sz ≤ 1099511627776) :
    Calls Tryz.prog 33 #[.pointer (some ⟨g, 0, none⟩), bv] w fun e w' => e = .returned (.int .i64 (k.more b).1) ∧ DiskAt w' d m (k.more b).2 ∧ Ext [d, m, g] w w' ∧
      WalRow w' g d T V lv (if (k.more b).1 = 0 then sz + b.length else sz) down := by
  obtain ⟨ab, cb, rfl, _, _⟩ := hb.shape
  obtain ⟨N, hN⟩ : ∃ N, N = (if (k.more b).1 = 0 then sz + b.length else sz) := ⟨_, rfl⟩
  rw [← hN]
  have HN := Lib.hid hN
  clear hN
  have hmf := makeFn
  have hgn : g ≠ d ∧ g ≠ m := by
    obtain ⟨gm, hrow, hmap, _⟩ := id hd
    constructor
    · rintro rfl; unfold WalRow at hw; rw [hrow] at hw; cases hw
    · rintro rfl; obtain ⟨es, clock, hblk⟩ := hmap.block; unfold WalRow at hw; rw [hw] at hblk; cases hblk
  have ld := hd.lt
  have lm := hd.ltm
  have lg := hw.lt
  go_enter Tryz.func33, Tryz.ntmps33
  go_wp2_with fail
  generalize hz0 : w.heap.size = z at *
  obtain ⟨W5, hW5⟩ : ∃ W5, W5 = ((w.alloc (Obj.cells #[.pointer (some ⟨g, 0, none⟩)] 33)).alloc (Obj.cells #[Value.slice ab b.length cb] 30)).alloc (Obj.cells #[Value.func (Fn.func 63) #[] #[Value.pointer (some ⟨z, 0, none⟩), Value.pointer (some ⟨z + 1, 0, none⟩)], Value.func (Fn.func 64) #[] #[Value.pointer (some ⟨z, 0, none⟩)], Value.func (Fn.func 65) #[] #[Value.pointer (some ⟨z, 0, none⟩), Value.pointer (some ⟨z + 1, 0, none⟩)]] 77) := ⟨_, rfl⟩
  have XX : Ext [] w W5 := by rw [hW5]; exact (((Ext.refl [] w).alloc _).alloc _).alloc _
  have t0 : W5.heap[z]? = some (Obj.cells #[.pointer (some ⟨g, 0, none⟩)] 33) := by rw [hW5, ← hz0]; exact heap_push (heap_push (heap_alloc_new w _) _) _
  have t1 : W5.heap[z + 1]? = some (Obj.cells #[Value.slice ab b.length cb] 30) := by
    have := heap_alloc_new (w.alloc (Obj.cells #[.pointer (some ⟨g, 0, none⟩)] 33)) (Obj.cells #[Value.slice ab b.length cb] 30)
    simp only [World.size_alloc, hz0] at this
    rw [hW5]; exact heap_push this _
  have t2 : W5.heap[z + 1 + 1]? = some (Obj.cells #[Value.func (Fn.func 63) #[] #[Value.pointer (some ⟨z, 0, none⟩), Value.pointer (some ⟨z + 1, 0, none⟩)], Value.func (Fn.func 64) #[] #[Value.pointer (some ⟨z, 0, none⟩)], Value.func (Fn.func 65) #[] #[Value.pointer (some ⟨z, 0, none⟩), Value.pointer (some ⟨z + 1, 0, none⟩)]] 77) := by
    have := heap_alloc_new ((w.alloc (Obj.cells #[.pointer (some ⟨g, 0, none⟩)] 33)).alloc (Obj.cells #[Value.slice ab b.length cb] 30)) (Obj.cells #[Value.func (Fn.func 63) #[] #[Value.pointer (some ⟨z, 0, none⟩), Value.pointer (some ⟨z + 1, 0, none⟩)], Value.func (Fn.func 64) #[] #[Value.pointer (some ⟨z, 0, none⟩)], Value.func (Fn.func 65) #[] #[Value.pointer (some ⟨z, 0, none⟩), Value.pointer (some ⟨z + 1, 0, none⟩)]] 77)
    simp only [World.size_alloc, hz0] at this
    rw [hW5]; exact this
  have z5 : W5.heap.size = z + 1 + 1 + 1 := by rw [hW5]; simp only [World.size_alloc, hz0]
  rw [← hW5]
  clear hW5
  refine (more_chain (hd.nil XX) hfu (hw.ext XX (by simp)) z (z + 1) (z + 1 + 1) ab cb b (by rw [cell_of_row _ _ _ _ _ _ t0]; rfl) (by rw [cell_of_row _ _ _ _ _ _ t1]; rfl) (by omega) (by omega) (by omega) (by omega) (by omega) (by omega) hgn ?_ (RdB.mono (RdB.ext hb XX) (by omega)) hsz hs2).mono ?_
  · intro i hi
    rw [cell_of_row _ _ _ _ _ _ t2]
    obtain rfl | rfl | rfl : i = 0 ∨ i = 1 ∨ i = 2 := by omega
    all_goals rfl
  · rintro e w6 ⟨rfl, h1, h2, h3⟩
    rw [← HN.out] at h3
    have HH := Lib.hid (And.intro h1 (And.intro h2 h3))
    clear h1 h2 h3 t0 t1 t2
    go_wp2
    go_ret
    exact ⟨rfl, HH.out.1, ((Ext.refl [d, m, g] w).cut (M1 := []) XX (by simp)).trans HH.out.2.1, HH.out.2.2⟩
end Go.Proofs.YtipbfmalacnmkaaGreat
