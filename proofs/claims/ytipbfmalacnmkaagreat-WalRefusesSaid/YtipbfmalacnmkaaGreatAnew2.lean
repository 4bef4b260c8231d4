/- wal.anew, walked. -/
import Derived.Test.YtipbfmalacnmkaaGreatAnew1
namespace Go.Proofs.YtipbfmalacnmkaaGreat
open Go.RowKit Go.Shelf

def Sv.zero : Sv := ⟨0, -1, []⟩
def fullOf (s : Sv) : List UInt8 := run (record Sv.zero s)
theorem record_le (was s : Sv) (h : mayB s = true) : (record was s).length ≤ 286720100 := by
  obtain ⟨h1, h2, h3, h4, h5, h6⟩ := may_parts h
  have hc := common_le was.log s.log
  have e0 := entsBytes_le (s.log.drop (common was.log s.log)) (fun x hx => List.all_eq_true.1 h6 x (List.mem_of_mem_drop hx))
  have e1 := uint_le s.term.toNat (by omega)
  have e2 := uint_le (zig s.vote) (by unfold zig; split <;> omega)
  have e3 := uint_le (common was.log s.log) (by omega)
  have e4 := uint_le (s.log.drop (common was.log s.log)).length (by rw [List.length_drop]; omega)
  rw [List.length_drop] at e0
  simp only [record, recBytes, List.length_append]
  omega
theorem run_record_le (was s : Sv) (h : mayB s = true) : (run (record was s)).length ≤ 573440300 := by
  have h1 := record_le was s h
  have h2 := run_len (record was s) _ (Nat.le_refl _)
  omega

set_option maxRecDepth 10000 in
set_option maxHeartbeats 1000000 in
theorem anew_calls {w : World} {d m g : Nat} {k : Dk} {T V : Int} {lv : Value} {sz : Nat} {down : Bool} (hd : DiskAt w d m k) (hfu : k.fuseOk) (hw : WalRow w g d T V lv sz down) (s : Sv) (u : Value) (hu : RdE w.heap.size w u s.log) (hs : mayB s = true) :
    Calls Tryz.prog 31 #[.pointer (some ⟨g, 0, none⟩), .agg #[.int .i64 s.term, .int .i64 s.vote, u]] w fun e w' => e = .returned (.int .i64 (k.anew (fullOf s)).1) ∧ DiskAt w' d m (k.anew (fullOf s)).2 ∧ Ext [d, m, g] w w' ∧
      WalRow w' g d T V lv (if (k.anew (fullOf s)).1 = 0 then (fullOf s).length else sz) down := by
  obtain ⟨au, cu, rfl, _, _⟩ := hu.shape
  obtain ⟨N, hN⟩ : ∃ N, N = (if (k.anew (fullOf s)).1 = 0 then (fullOf s).length else sz) := ⟨_, rfl⟩
  rw [← hN]
  have HN := Lib.hid hN
  clear hN
  have hmf := makeFn
  have hrl := record_le Sv.zero s hs
  have hfl := run_record_le Sv.zero s hs
  obtain ⟨W, hW⟩ : ∃ W, W = (w.alloc (.cells #[.pointer (some ⟨g, 0, none⟩)] 33)).alloc (.cells #[.int .i64 s.term, .int .i64 s.vote, .slice au s.log.length cu] 27) := ⟨_, rfl⟩
  have X : Ext [] w W := by rw [hW]; exact ((Ext.refl [] w).alloc _).alloc _
  have r0 : W.heap[w.heap.size]? = some (.cells #[.pointer (some ⟨g, 0, none⟩)] 33 (0, 0)) := by rw [hW]; exact heap_push (heap_alloc_new w _) _
  have r1 : W.heap[w.heap.size + 1]? = some (.cells #[.int .i64 s.term, .int .i64 s.vote, .slice au s.log.length cu] 27 (0, 0)) := by
    have := heap_alloc_new (w.alloc (.cells #[.pointer (some ⟨g, 0, none⟩)] 33)) (.cells #[.int .i64 s.term, .int .i64 s.vote, .slice au s.log.length cu] 27)
    simp only [World.size_alloc] at this
    rw [hW]; exact this
  have q0 : W.cell? ⟨w.heap.size + 1, 0, none⟩ = some (.int .i64 s.term) := by rw [cell_of_row _ _ _ _ _ _ r1]; rfl
  have q1 : W.cell? ⟨w.heap.size + 1, 1, none⟩ = some (.int .i64 s.vote) := by rw [cell_of_row _ _ _ _ _ _ r1]; rfl
  have q2 : W.cell? ⟨w.heap.size + 1, 2, none⟩ = some (.slice au s.log.length cu) := by rw [cell_of_row _ _ _ _ _ _ r1]; rfl
  have hrec := record_calls (.slice none 0 0) (.slice au s.log.length cu) Sv.zero s W (Rd.nil _ _ _ _) (RdE.mono (Rd.ext hu X) X.size) hs
  have HREC := Lib.hid hrec
  have ld := hd.lt
  have lm := hd.ltm
  have lg := hw.lt
  clear hrec
  go_enter Tryz.func31, Tryz.ntmps31
  go_upto_region 1 with fail
  rw [← hW]
  clear hW
  go_wp2_with (first
    | (go_at_call 30; refine HREC.out.mono ?_; rintro e w2 ⟨v2, rfl, ho2, hb2⟩)
    | (go_at_call 29; refine (run_calls v2 _ (by omega) w2 ho2.rd).mono ?_
       rintro e w3 ⟨v3, rfl, ho3, hb3⟩
       obtain ⟨a3, c3, rfl, _, _⟩ := ho3.rd.shape))
  have hgn : g ≠ d ∧ g ≠ m := by
    obtain ⟨gm, hrow, hmap, _⟩ := id hd
    constructor
    · rintro rfl; unfold WalRow at hw; rw [hrow] at hw; cases hw
    · rintro rfl; obtain ⟨es, clock, hblk⟩ := hmap.block; unfold WalRow at hw; rw [hw] at hblk; cases hblk
  have X3 : Ext [] W w3 := (Ext.of_below hb2).trans (Ext.of_below hb3)
  have hFB : (run (record Sv.zero s)) = fullOf s := rfl
  rw [hFB] at ho3 ⊢
  obtain ⟨W5, hW5⟩ : ∃ W5, W5 = (w3.alloc (Obj.cells #[Value.slice a3 (fullOf s).length c3] 30)).alloc (Obj.cells #[Value.func (Fn.func 57) #[] #[Value.pointer (some ⟨w.heap.size, 0, none⟩)], Value.func (Fn.func 58) #[] #[Value.pointer (some ⟨w.heap.size, 0, none⟩), Value.pointer (some ⟨w3.heap.size, 0, none⟩)], Value.func (Fn.func 59) #[] #[Value.pointer (some ⟨w.heap.size, 0, none⟩)], Value.func (Fn.func 60) #[] #[Value.pointer (some ⟨w.heap.size, 0, none⟩)], Value.func (Fn.func 62) #[] #[Value.pointer (some ⟨w3.heap.size, 0, none⟩), Value.pointer (some ⟨w.heap.size, 0, none⟩)]] 77) := ⟨_, rfl⟩
  have X5 : Ext [] w3 W5 := by rw [hW5]; exact ((Ext.refl [] w3).alloc _).alloc _
  have z5 : W5.heap.size = w3.heap.size + 1 + 1 := by rw [hW5]; simp only [World.size_alloc]
  have t0 : W5.heap[w3.heap.size]? = some (Obj.cells #[Value.slice a3 (fullOf s).length c3] 30) := by rw [hW5]; exact heap_push (heap_alloc_new w3 _) _
  have t1 : W5.heap[w3.heap.size + 1]? = some (Obj.cells #[Value.func (Fn.func 57) #[] #[Value.pointer (some ⟨w.heap.size, 0, none⟩)], Value.func (Fn.func 58) #[] #[Value.pointer (some ⟨w.heap.size, 0, none⟩), Value.pointer (some ⟨w3.heap.size, 0, none⟩)], Value.func (Fn.func 59) #[] #[Value.pointer (some ⟨w.heap.size, 0, none⟩)], Value.func (Fn.func 60) #[] #[Value.pointer (some ⟨w.heap.size, 0, none⟩)], Value.func (Fn.func 62) #[] #[Value.pointer (some ⟨w3.heap.size, 0, none⟩), Value.pointer (some ⟨w.heap.size, 0, none⟩)]] 77) := by
    have := heap_alloc_new (w3.alloc (Obj.cells #[Value.slice a3 (fullOf s).length c3] 30)) (Obj.cells #[Value.func (Fn.func 57) #[] #[Value.pointer (some ⟨w.heap.size, 0, none⟩)], Value.func (Fn.func 58) #[] #[Value.pointer (some ⟨w.heap.size, 0, none⟩), Value.pointer (some ⟨w3.heap.size, 0, none⟩)], Value.func (Fn.func 59) #[] #[Value.pointer (some ⟨w.heap.size, 0, none⟩)], Value.func (Fn.func 60) #[] #[Value.pointer (some ⟨w.heap.size, 0, none⟩)], Value.func (Fn.func 62) #[] #[Value.pointer (some ⟨w3.heap.size, 0, none⟩), Value.pointer (some ⟨w.heap.size, 0, none⟩)]] 77)
    simp only [World.size_alloc] at this
    rw [hW5]; exact this
  rw [← hW5]
  clear hW5
  have XX : Ext [] w W5 := (X.trans X3).trans X5
  have zz1 : w.heap.size + 1 < W.heap.size := (Array.getElem?_eq_some_iff.1 r1).1
  have zz2 := X3.size
  have zz3 := X5.size
  refine (anew_chain (hd.nil XX) hfu (hw.ext XX (by simp)) w.heap.size w3.heap.size (w3.heap.size + 1) a3 c3 (fullOf s) (by rw [cell_of_row _ _ _ _ _ _ ((X3.trans X5).heap r0)]; rfl) (by rw [cell_of_row _ _ _ _ _ _ t0]; rfl) (by omega) (by omega) (by omega) (by omega) (by omega) (by omega) hgn ?_ (RdB.mono (RdB.ext ho3.rd X5) X5.size) (by unfold fullOf; omega)).mono ?_
  · intro i hi
    rw [cell_of_row _ _ _ _ _ _ t1]
    obtain rfl | rfl | rfl | rfl | rfl : i = 0 ∨ i = 1 ∨ i = 2 ∨ i = 3 ∨ i = 4 := by omega
    all_goals rfl
  · rintro e w6 ⟨rfl, h1, h2, h3⟩
    rw [← HN.out] at h3
    have HH := Lib.hid (And.intro h1 (And.intro h2 h3))
    clear h1 h2 h3 t0 t1
    go_wp2
    go_ret
    exact ⟨rfl, HH.out.1, ((Ext.refl [d, m, g] w).cut (M1 := []) XX (by simp)).trans HH.out.2.1, HH.out.2.2⟩
end Go.Proofs.YtipbfmalacnmkaaGreat
