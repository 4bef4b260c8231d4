/- wal.Keep where it refuses. -/
import Derived.Test.YtipbfmalacnmkaaGreatOpen2
namespace Go.Proofs.YtipbfmalacnmkaaGreat
open Go.RowKit Go.Shelf

set_option maxRecDepth 10000 in
theorem Keep_nil (T V : Int) (u : Value) (w : World) (hu : ∃ a n c, u = .slice a n c) : Calls Tryz.prog 12 #[.pointer none, .agg #[.int .i64 T, .int .i64 V, u]] w fun e w' => e = .returned (.int .i64 1) ∧ Ext [] w w' := by
  obtain ⟨a, n, c, rfl⟩ := hu
  go_enter Tryz.func12, Tryz.ntmps12
  go_wp2
  go_ret
  exact ⟨rfl, (Ext.refl [] w).alloc _⟩
set_option maxRecDepth 10000 in
theorem Keep_zero (g : Nat) (T V : Int) (u : Value) (w : World) (h0 : w.cell? ⟨g, 0, none⟩ = some (.pointer none)) (hu : ∃ a n c, u = .slice a n c) : Calls Tryz.prog 12 #[.pointer (some ⟨g, 0, none⟩), .agg #[.int .i64 T, .int .i64 V, u]] w fun e w' => e = .returned (.int .i64 1) ∧ Ext [] w w' := by
  obtain ⟨a, n, c, rfl⟩ := hu
  have hl : g < w.heap.size := by
    obtain ⟨o, ho, _⟩ := cells_of_cell h0
    exact (Array.getElem?_eq_some_iff.1 ho).1
  go_enter Tryz.func12, Tryz.ntmps12
  go_wp2
  go_ret
  exact ⟨rfl, (Ext.refl [] w).alloc _⟩
set_option maxRecDepth 10000 in
set_option maxHeartbeats 600000 in
theorem Keep_shape {w : World} {g d : Nat} {T V : Int} {lv : Value} {sz : Nat} {down : Bool} (hw : WalRow w g d T V lv sz down) (s : Sv) (u : Value) (hu : RdE w.heap.size w u s.log) (hs : mayB s = false) (hL : ∀ x ∈ s.log, x.data.size ≤ maxLen) :
    Calls Tryz.prog 12 #[.pointer (some ⟨g, 0, none⟩), .agg #[.int .i64 s.term, .int .i64 s.vote, u]] w fun e w' => e = .returned (.int .i64 3) ∧ Ext [] w w' := by
  obtain ⟨au, cu, rfl, _, _⟩ := hu.shape
  have h0 := hw.c0
  have lg := hw.lt
  have X1 : Ext [] w (w.alloc (.cells #[.int .i64 s.term, .int .i64 s.vote, .slice au s.log.length cu] 27)) := (Ext.refl [] w).alloc _
  have hmay := may_calls (.slice au s.log.length cu) s hL (w.alloc (.cells #[.int .i64 s.term, .int .i64 s.vote, .slice au s.log.length cu] 27)) (RdE.mono (Rd.ext hu X1) X1.size)
  rw [hs] at hmay
  have HM := Lib.hid hmay
  clear hmay hs hL
  go_enter Tryz.func12, Tryz.ntmps12
  go_wp2_with (go_at_call 28; refine HM.out.mono ?_; rintro e w2 ⟨rfl, b2⟩)
  go_ret
  exact ⟨rfl, X1.trans (Ext.of_below b2)⟩
set_option maxRecDepth 10000 in
set_option maxHeartbeats 800000 in
theorem Keep_down {w : World} {g d m : Nat} {k : Dk} {T V : Int} {lv : Value} {sz : Nat} {down : Bool} (hd : DiskAt w d m k) (hw : WalRow w g d T V lv sz down) (s : Sv) (u : Value) (hu : RdE w.heap.size w u s.log) (hs : mayB s = true) (hdn : down = true ∨ k.off = true) :
    Calls Tryz.prog 12 #[.pointer (some ⟨g, 0, none⟩), .agg #[.int .i64 s.term, .int .i64 s.vote, u]] w fun e w' => e = .returned (.int .i64 250) ∧ WalRow w' g d T V lv sz true ∧ Ext [g] w w' := by
  obtain ⟨au, cu, rfl, _, _⟩ := hu.shape
  have lg := hw.lt
  have hL : ∀ x ∈ s.log, x.data.size ≤ maxLen := fun x hx => by
    have := (entOk_parts (List.all_eq_true.1 (may_parts hs).2.2.2.2.2 x hx)).2.2
    unfold maxLen; omega
  have X1 : Ext [] w (w.alloc (.cells #[.int .i64 s.term, .int .i64 s.vote, .slice au s.log.length cu] 27)) := (Ext.refl [] w).alloc _
  have hmay := may_calls (.slice au s.log.length cu) s hL (w.alloc (.cells #[.int .i64 s.term, .int .i64 s.vote, .slice au s.log.length cu] 27)) (RdE.mono (Rd.ext hu X1) X1.size)
  rw [hs] at hmay
  have HM := Lib.hid hmay
  have h00 := hw.c0
  clear hmay hs hL
  have key : ∀ w2, Ext [] w w2 → WalRow (w2.setCell ⟨g, 5, none⟩ (.bool true)) g d T V lv sz true ∧ Ext [g] w (w2.setCell ⟨g, 5, none⟩ (.bool true)) := fun w2 x2 =>
    ⟨heap_set (o := 5) (.bool true) (hw.ext x2 (by simp)), ((Ext.refl [g] w).cut (M1 := []) x2 (by simp)).setCell (p := ⟨g, 5, none⟩) (.inl (by simp)) _⟩
  cases down
  · have hoff : k.off = true := hdn.resolve_left (by simp)
    have HK := Lib.hid key
    clear key hdn
    go_enter Tryz.func12, Tryz.ntmps12
    go_wp2_with (first
      | (go_at_call 28; refine HM.out.mono ?_; rintro e w2 ⟨rfl, b2⟩; have x2 := X1.trans (Ext.of_below b2); have r2 := hw.ext x2 (by simp); have p0 := r2.c0; have p5 := r2.c5; have f5 := r2.f 5; have hof := Off_calls (hd.nil x2); rw [hoff] at hof)
      | (go_at_call 27; refine hof.mono ?_; rintro e w3 ⟨rfl, rfl⟩))
    go_ret
    exact ⟨rfl, HK.out _ x2⟩
  · have HK := Lib.hid key
    clear key hdn
    go_enter Tryz.func12, Tryz.ntmps12
    go_wp2_with (go_at_call 28; refine HM.out.mono ?_; rintro e w2 ⟨rfl, b2⟩; have x2 := X1.trans (Ext.of_below b2); have r2 := hw.ext x2 (by simp); have p0 := r2.c0; have p5 := r2.c5; have f5 := r2.f 5)
    go_ret
    exact ⟨rfl, HK.out _ x2⟩
end Go.Proofs.YtipbfmalacnmkaaGreat
