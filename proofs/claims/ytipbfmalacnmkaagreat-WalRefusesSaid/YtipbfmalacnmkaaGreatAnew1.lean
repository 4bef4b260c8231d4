/- wal.anew and wal.more: what they do to the disk and to the wal. -/
import Derived.Test.YtipbfmalacnmkaaGreatParts
namespace Go.Proofs.YtipbfmalacnmkaaGreat
open Go.RowKit Go.Shelf

def Dk.andThen (r : Int × Dk) (f : Dk → Int × Dk) : Int × Dk := if r.1 = 0 then f r.2 else r
def Dk.anew (k : Dk) (full : List UInt8) : Int × Dk := Dk.andThen (Dk.andThen (Dk.andThen k.clear (fun k => k.append .new full)) (fun k => k.sync .new)) (fun k => k.rename .new .wal)
def Dk.more (k : Dk) (b : List UInt8) : Int × Dk := Dk.andThen (k.append .wal b) (fun k => k.sync .wal)
theorem Dk.fuse_blown {k : Dk} : k.blown.fuseOk := by unfold Dk.fuseOk Dk.blown; simp
theorem Dk.fuse_burnt {k : Dk} (h : k.fuseOk) : k.burnt.fuseOk := by
  unfold Dk.fuseOk Dk.burnt at *
  simp only
  split <;> omega
theorem Dk.fuse_put {k : Dk} {x : Nm} {f : Fl} (h : k.fuseOk) : (k.put x f).fuseOk := h
theorem Dk.fuse_del {k : Dk} {x : Nm} (h : k.fuseOk) : (k.del x).fuseOk := h
theorem Dk.fuse_append {k : Dk} {x : Nm} {b : List UInt8} (h : k.fuseOk) : (k.append x b).2.fuseOk := by
  unfold Dk.append
  split
  · exact h
  · split
    · exact Dk.fuse_put Dk.fuse_blown
    · exact Dk.fuse_put (Dk.fuse_burnt h)
theorem Dk.fuse_sync {k : Dk} {x : Nm} (h : k.fuseOk) : (k.sync x).2.fuseOk := by
  unfold Dk.sync
  split
  · exact h
  · split
    · exact Dk.fuse_blown
    · exact Dk.fuse_put (Dk.fuse_burnt h)
theorem Dk.fuse_remove {k : Dk} {x : Nm} (h : k.fuseOk) : (k.remove x).2.fuseOk := by
  unfold Dk.remove
  split
  · exact h
  · split
    · exact Dk.fuse_blown
    · exact Dk.fuse_del (Dk.fuse_burnt h)
theorem Dk.fuse_rename {k : Dk} {x y : Nm} (h : k.fuseOk) : (k.rename x y).2.fuseOk := by
  unfold Dk.rename
  split
  · exact h
  · split
    · exact Dk.fuse_blown
    · exact Dk.fuse_put (Dk.fuse_del (Dk.fuse_burnt h))
theorem Dk.fuse_clear {k : Dk} (h : k.fuseOk) : k.clear.2.fuseOk := by
  unfold Dk.clear
  split <;> exact Dk.fuse_remove h
/-- Behind a clear that went well no new file is there. -/
theorem Dk.clear_get {k : Dk} (h : k.clear.1 = 0) : k.clear.2.fs .new = none := by
  unfold Dk.clear at *
  split at h
  · rename_i h5
    rw [if_pos h5]
    unfold Dk.remove at *
    split at h5
    · rename_i he
      rw [if_pos he]
      simp only [Dk.errAt] at h5
      split at h5
      · omega
      · split at h5
        · omega
        · rename_i hn
          simpa using hn
    · split at h5 <;> simp at h5
  · rename_i h5
    rw [if_neg h5]
    unfold Dk.remove at *
    split at h
    · rename_i he; exact absurd h he
    · rename_i he
      rw [if_neg he]
      split at h
      · simp at h
      · rename_i hf
        rw [if_neg hf]
        simp [Dk.del, upd]

/-- A wal in block g. -/
def WalRow (w : World) (g d : Nat) (T V : Int) (lv : Value) (sz : Nat) (down : Bool) : Prop := w.heap[g]? = some (.cells #[.pointer (some ⟨d, 0, none⟩), .int .i64 T, .int .i64 V, lv, .int .i64 sz, .bool down] 41 (0, 0))
section
variable {w : World} {g d : Nat} {T V : Int} {lv : Value} {sz : Nat} {down : Bool}
theorem WalRow.c0 (h : WalRow w g d T V lv sz down) : w.cell? ⟨g, 0, none⟩ = some (.pointer (some ⟨d, 0, none⟩)) := by rw [cell_of_row _ _ _ _ _ _ h]; rfl
theorem WalRow.c1 (h : WalRow w g d T V lv sz down) : w.cell? ⟨g, 1, none⟩ = some (.int .i64 T) := by rw [cell_of_row _ _ _ _ _ _ h]; rfl
theorem WalRow.c2 (h : WalRow w g d T V lv sz down) : w.cell? ⟨g, 2, none⟩ = some (.int .i64 V) := by rw [cell_of_row _ _ _ _ _ _ h]; rfl
theorem WalRow.c3 (h : WalRow w g d T V lv sz down) : w.cell? ⟨g, 3, none⟩ = some lv := by rw [cell_of_row _ _ _ _ _ _ h]; rfl
theorem WalRow.c4 (h : WalRow w g d T V lv sz down) : w.cell? ⟨g, 4, none⟩ = some (.int .i64 sz) := by rw [cell_of_row _ _ _ _ _ _ h]; rfl
theorem WalRow.c5 (h : WalRow w g d T V lv sz down) : w.cell? ⟨g, 5, none⟩ = some (.bool down) := by rw [cell_of_row _ _ _ _ _ _ h]; rfl
theorem WalRow.f (h : WalRow w g d T V lv sz down) (o : Nat) : w.frozen? ⟨g, o, none⟩ = false := frozen_of_row _ _ _ _ _ h
theorem WalRow.lt (h : WalRow w g d T V lv sz down) : g < w.heap.size := (Array.getElem?_eq_some_iff.1 h).1
theorem WalRow.ext {w' : World} {M : List Nat} (h : WalRow w g d T V lv sz down) (hx : Ext M w w') (hm : g ∉ M) : WalRow w' g d T V lv sz down := (hx.block g h.lt hm).trans h
theorem WalRow.size (h : WalRow w g d T V lv sz down) (n : Nat) : WalRow (w.setCell ⟨g, 4, none⟩ (.int .i64 n)) g d T V lv n down := heap_set (o := 4) (.int .i64 n) h
end
def aK (k : Dk) (full : List UInt8) : Nat → Dk
  | 0 => k
  | 1 => k.clear.2
  | 2 => (k.clear.2.append .new full).2
  | 3 => ((k.clear.2.append .new full).2.sync .new).2
  | _ => (((k.clear.2.append .new full).2.sync .new).2.rename .new .wal).2
def aR (k : Dk) (full : List UInt8) : Nat → Int
  | 0 => k.clear.1
  | 1 => (k.clear.2.append .new full).1
  | 2 => ((k.clear.2.append .new full).2.sync .new).1
  | 3 => (((k.clear.2.append .new full).2.sync .new).2.rename .new .wal).1
  | _ => 0
def aF : Nat → Nat
  | 0 => 57 | 1 => 58 | 2 => 59 | 3 => 60 | _ => 62
def aC (c0 c1 : Nat) : Nat → Array Value
  | 0 => #[.pointer (some ⟨c0, 0, none⟩)]
  | 1 => #[.pointer (some ⟨c0, 0, none⟩), .pointer (some ⟨c1, 0, none⟩)]
  | 2 => #[.pointer (some ⟨c0, 0, none⟩)]
  | 3 => #[.pointer (some ⟨c0, 0, none⟩)]
  | _ => #[.pointer (some ⟨c1, 0, none⟩), .pointer (some ⟨c0, 0, none⟩)]
theorem enter57 : ∀ args w, (callFunc 57 args).run Tryz.prog w = .ok (.enter 57 args) w := enters_of Tryz.func57 (by kernel_rfl) rfl
theorem enter58 : ∀ args w, (callFunc 58 args).run Tryz.prog w = .ok (.enter 58 args) w := enters_of Tryz.func58 (by kernel_rfl) rfl
theorem enter59 : ∀ args w, (callFunc 59 args).run Tryz.prog w = .ok (.enter 59 args) w := enters_of Tryz.func59 (by kernel_rfl) rfl
theorem enter60 : ∀ args w, (callFunc 60 args).run Tryz.prog w = .ok (.enter 60 args) w := enters_of Tryz.func60 (by kernel_rfl) rfl
theorem enter62 : ∀ args w, (callFunc 62 args).run Tryz.prog w = .ok (.enter 62 args) w := enters_of Tryz.func62 (by kernel_rfl) rfl
theorem enter63 : ∀ args w, (callFunc 63 args).run Tryz.prog w = .ok (.enter 63 args) w := enters_of Tryz.func63 (by kernel_rfl) rfl
theorem enter64 : ∀ args w, (callFunc 64 args).run Tryz.prog w = .ok (.enter 64 args) w := enters_of Tryz.func64 (by kernel_rfl) rfl
theorem enter65 : ∀ args w, (callFunc 65 args).run Tryz.prog w = .ok (.enter 65 args) w := enters_of Tryz.func65 (by kernel_rfl) rfl

/-- The chain of anew. -/
theorem anew_chain {W : World} {d m g : Nat} {k : Dk} {T V : Int} {lv : Value} {sz : Nat} {down : Bool} (hd : DiskAt W d m k) (hfu : k.fuseOk) (hw : WalRow W g d T V lv sz down) (c0 c1 bb : Nat) (ab : Option Addr) (cb : Nat) (full : List UInt8)
    (p0 : W.cell? ⟨c0, 0, none⟩ = some (.pointer (some ⟨g, 0, none⟩))) (p1 : W.cell? ⟨c1, 0, none⟩ = some (.slice ab full.length cb)) (l0 : c0 < W.heap.size) (l1 : c1 < W.heap.size) (lb : bb < W.heap.size)
    (n0 : c0 ≠ d ∧ c0 ≠ m ∧ c0 ≠ g) (n1 : c1 ≠ d ∧ c1 ≠ m ∧ c1 ≠ g) (nb : bb ≠ d ∧ bb ≠ m ∧ bb ≠ g) (ng : g ≠ d ∧ g ≠ m)
    (hcell : ∀ i, i < 5 → W.cell? ⟨bb, i, none⟩ = some (.func (.func (aF i)) #[] (aC c0 c1 i))) (hb : RdB W.heap.size W (.slice ab full.length cb) full) (hsz : full.length ≤ 1099511627776) :
    Calls Tryz.prog 56 #[.slice (some ⟨bb, 0, none⟩) 5 5] W fun e w' => e = .returned (.int .i64 (k.anew full).1) ∧ DiskAt w' d m (k.anew full).2 ∧ Ext [d, m, g] W w' ∧ WalRow w' g d T V lv (if (k.anew full).1 = 0 then full.length else sz) down := by
  have hMn : ∀ {c : Nat}, c ≠ d ∧ c ≠ m ∧ c ≠ g → c ∉ [d, m, g] := fun h => by simp; omega
  have h5 : ∀ q ∈ [d, m, g], ∀ cur fz, W.heap[q]? ≠ some (.cells cur 5 fz) := by
    intro q hq cur fz hc
    simp only [List.mem_cons, List.not_mem_nil, or_false] at hq
    obtain ⟨gm, hrow, hmap, _⟩ := id hd
    rcases hq with rfl | rfl | rfl
    · rw [hrow] at hc; cases hc
    · obtain ⟨es, clock, hblk⟩ := hmap.block; rw [hblk] at hc; cases hc
    · unfold WalRow at hw; rw [hw] at hc; cases hc
  refine (chain_calls bb 5 aF (aC c0 c1) (fun i w' => DiskAt w' d m (aK k full i) ∧ Ext [d, m, g] W w' ∧ WalRow w' g d T V lv (if i = 5 then full.length else sz) down) (aR k full) (by omega) ?en ?cell ?step W ⟨hd, Ext.refl _ _, hw⟩).mono ?post
  case en =>
    intro i hi
    obtain rfl | rfl | rfl | rfl | rfl : i = 0 ∨ i = 1 ∨ i = 2 ∨ i = 3 ∨ i = 4 := by omega
    · exact enter57
    · exact enter58
    · exact enter59
    · exact enter60
    · exact enter62
  case cell =>
    rintro i j W' ⟨_, hx, _⟩ hi
    exact (hx.cellAt lb (hMn nb)).trans (hcell i hi)
  case step =>
    rintro i W' hi hz ⟨hD, hx, hr⟩
    have q0 := hr.c0
    have s0 := (hx.cellAt l0 (hMn n0)).trans p0
    have s1 := (hx.cellAt l1 (hMn n1)).trans p1
    have hb' : RdB W'.heap.size W' (.slice ab full.length cb) full := RdB.mono (Rd.extM hb hx h5) hx.size
    have hgo : ∀ w2, Ext [d, m] W' w2 → Ext [d, m, g] W w2 := fun w2 h => hx.cut h (by simp)
    have hwr : ∀ w2, Ext [d, m] W' w2 → WalRow w2 g d T V lv (if i = 5 then full.length else sz) down := fun w2 h => hr.ext h (by simp; omega)
    obtain rfl | rfl | rfl | rfl | rfl : i = 0 ∨ i = 1 ∨ i = 2 ∨ i = 3 ∨ i = 4 := by omega
    · exact (anew1_calls hD hfu c0 g s0 q0).mono (fun e w2 ⟨h1, h2, h3⟩ => ⟨h1, h2, hgo w2 h3, hwr w2 h3⟩)
    · have hg0 : k.clear.1 = 0 := hz 0 (by omega)
      have hn : (k.clear.2.get .new).b.length = 0 := by simp [Dk.get, Dk.clear_get hg0, Fl.none]
      exact (anew2_calls hD (Dk.fuse_clear hfu) c0 c1 g _ full s0 q0 s1 hb' (by show (k.clear.2.get .new).b.length + _ ≤ _; omega)).mono (fun e w2 ⟨h1, h2, h3⟩ => ⟨h1, h2, hgo w2 h3, hwr w2 h3⟩)
    · exact (anew3_calls hD (Dk.fuse_append (Dk.fuse_clear hfu)) c0 g s0 q0).mono (fun e w2 ⟨h1, h2, h3⟩ => ⟨h1, h2, hgo w2 h3, hwr w2 h3⟩)
    · exact (anew4_calls hD (Dk.fuse_sync (Dk.fuse_append (Dk.fuse_clear hfu))) c0 g s0 q0).mono (fun e w2 ⟨h1, h2, h3⟩ => ⟨h1, h2, hgo w2 h3, hwr w2 h3⟩)
    · refine (anew5_calls c0 c1 g ab full.length cb sz s0 s1 hr.c4 (hr.f 4)).mono ?_
      rintro e w2 ⟨rfl, rfl⟩
      have hxg : Ext [g] W' (W'.setCell ⟨g, 4, none⟩ (.int .i64 full.length)) := (Ext.refl [g] W').setCell (p := ⟨g, 4, none⟩) (.inl (by simp)) _
      refine ⟨rfl, DiskAt.ext hD hxg ?_, hx.cut hxg (by simp), hr.size _⟩
      intro q hq
      rw [List.mem_singleton] at hq
      subst hq
      exact ⟨ng.1, ng.2, fun cur fz hc => by unfold WalRow at hr; rw [hr] at hc; cases hc⟩
  case post =>
    rintro e w' (⟨rfl, ⟨h1, h2, h3⟩, hz⟩ | ⟨i, hi, rfl, hr, ⟨h1, h2, h3⟩, hz⟩)
    · have e0 : k.clear.1 = 0 := hz 0 (by omega)
      have e1 : (k.clear.2.append .new full).1 = 0 := hz 1 (by omega)
      have e2 : ((k.clear.2.append .new full).2.sync .new).1 = 0 := hz 2 (by omega)
      have e3 : (((k.clear.2.append .new full).2.sync .new).2.rename .new .wal).1 = 0 := hz 3 (by omega)
      have ha : k.anew full = ((k.clear.2.append .new full).2.sync .new).2.rename .new .wal := by simp [Dk.anew, Dk.andThen, e0, e1, e2]
      rw [ha, e3]
      exact ⟨rfl, h1, h2, h3⟩
    · have h3' : WalRow w' g d T V lv sz down ∨ i = 4 := by
        by_cases h4 : i = 4
        · exact .inr h4
        · rw [if_neg (by omega)] at h3; exact .inl h3
      obtain rfl | rfl | rfl | rfl | rfl : i = 0 ∨ i = 1 ∨ i = 2 ∨ i = 3 ∨ i = 4 := by omega
      · have hr' : k.clear.1 ≠ 0 := hr
        have ha : k.anew full = k.clear := by simp [Dk.anew, Dk.andThen, hr']
        rw [ha, if_neg hr']
        exact ⟨rfl, h1, h2, h3'.resolve_right (by omega)⟩
      · have e0 : k.clear.1 = 0 := hz 0 (by omega)
        have hr' : (k.clear.2.append .new full).1 ≠ 0 := hr
        have ha : k.anew full = k.clear.2.append .new full := by simp [Dk.anew, Dk.andThen, e0, hr']
        rw [ha, if_neg hr']
        exact ⟨rfl, h1, h2, h3'.resolve_right (by omega)⟩
      · have e0 : k.clear.1 = 0 := hz 0 (by omega)
        have e1 : (k.clear.2.append .new full).1 = 0 := hz 1 (by omega)
        have hr' : ((k.clear.2.append .new full).2.sync .new).1 ≠ 0 := hr
        have ha : k.anew full = (k.clear.2.append .new full).2.sync .new := by simp [Dk.anew, Dk.andThen, e0, e1, hr']
        rw [ha, if_neg hr']
        exact ⟨rfl, h1, h2, h3'.resolve_right (by omega)⟩
      · have e0 : k.clear.1 = 0 := hz 0 (by omega)
        have e1 : (k.clear.2.append .new full).1 = 0 := hz 1 (by omega)
        have e2 : ((k.clear.2.append .new full).2.sync .new).1 = 0 := hz 2 (by omega)
        have hr' : (((k.clear.2.append .new full).2.sync .new).2.rename .new .wal).1 ≠ 0 := hr
        have ha : k.anew full = ((k.clear.2.append .new full).2.sync .new).2.rename .new .wal := by simp [Dk.anew, Dk.andThen, e0, e1, e2]
        rw [ha, if_neg hr']
        exact ⟨rfl, h1, h2, h3'.resolve_right (by omega)⟩
      · exact absurd rfl hr
end Go.Proofs.YtipbfmalacnmkaaGreat
