/- wal.Saved, walked. -/
import Derived.Test.YtipbfmalacnmkaaGreatMore
namespace Go.Proofs.YtipbfmalacnmkaaGreat
open Go.RowKit Go.Shelf

set_option maxRecDepth 10000 in
theorem Saved_nil (w : World) : Calls Tryz.prog 16 #[.pointer none] w fun e w' => e = .returned (.agg #[.int .i64 0, .int .i64 0, .slice none 0 0]) ∧ Below w.heap.size w w' := by
  go_enter Tryz.func16, Tryz.ntmps16
  go_wp2
  exact bodyPost_ret (v := .agg #[.int .i64 0, .int .i64 0, .slice none 0 0]) (by simp [results, Tryz.results16, go_sem]) rfl ⟨rfl, (Below.refl _ _).alloc (Nat.le_refl _) _⟩
set_option maxRecDepth 10000 in
theorem Saved_zero (g : Nat) (w : World) (h0 : w.cell? ⟨g, 0, none⟩ = some (.pointer none)) : Calls Tryz.prog 16 #[.pointer (some ⟨g, 0, none⟩)] w fun e w' => e = .returned (.agg #[.int .i64 0, .int .i64 0, .slice none 0 0]) ∧ Below w.heap.size w w' := by
  have hl : g < w.heap.size := by
    obtain ⟨o, ho, _⟩ := cells_of_cell h0
    exact (Array.getElem?_eq_some_iff.1 ho).1
  go_enter Tryz.func16, Tryz.ntmps16
  go_wp2
  exact bodyPost_ret (v := .agg #[.int .i64 0, .int .i64 0, .slice none 0 0]) (by simp [results, Tryz.results16, go_sem]) rfl ⟨rfl, (Below.refl _ _).alloc (Nat.le_refl _) _⟩
set_option maxRecDepth 10000 in
set_option maxHeartbeats 800000 in
theorem Saved_calls {w : World} {g d : Nat} {T V : Int} {lv : Value} {sz : Nat} {down : Bool} (hw : WalRow w g d T V lv sz down) (L : List Ent) (hL : RdE w.heap.size w lv L) (hl : L.length ≤ 1099511627776) :
    Calls Tryz.prog 16 #[.pointer (some ⟨g, 0, none⟩)] w fun e w' => ∃ v', e = .returned (.agg #[.int .i64 T, .int .i64 V, v']) ∧ OwnE w' w.heap.size v' L ∧ Below w.heap.size w w' := by
  obtain ⟨al, cl, rfl, _, _⟩ := hL.shape
  have h0 := hw.c0
  have h1 := hw.c1
  have h2 := hw.c2
  have h3 := hw.c3
  have lg := hw.lt
  go_enter Tryz.func16, Tryz.ntmps16
  have hL2 : RdE w.heap.size ((w.alloc (.cells #[.int .i64 0, .int .i64 0, .slice none 0 0] 27)).alloc (.cells #[.int .i64 T, .int .i64 V, .slice al L.length cl] 27)) (.slice al L.length cl) L := hL.ext (((Ext.refl [] w).alloc _).alloc _)
  have hcl := Clone_calls (.slice al L.length cl) L hl _ (RdE.mono hL2 (by simp only [World.size_alloc]; omega))
  have HCL := Lib.hid hcl
  clear hcl
  go_wp2_with (go_at_call 34; refine HCL.out.mono ?_; rintro e w2 ⟨v2, rfl, ho2, hb2⟩; obtain ⟨a2, c2, rfl, _, _⟩ := ho2.rd.shape; obtain ⟨hc2, hf2⟩ := Ext.cells (Ext.of_below hb2); have hz2 := hb2.size; simp only [World.size_alloc] at hz2)
  have hb3 : Below w.heap.size w w2 := (((Below.refl _ w).alloc (Nat.le_refl _) _).alloc (by simp) _).trans (hb2.mono (by simp only [World.size_alloc]; omega))
  have r2 : w2.heap[w.heap.size]? = some (.cells #[.int .i64 0, .int .i64 0, .slice none 0 0] 27 (0, 0)) := (Ext.of_below hb2).heap (heap_push (heap_alloc_new w _) _)
  have r3 := heap_set (o := 2) (.slice a2 L.length c2) (heap_set (o := 1) (.int .i64 V) (heap_set (o := 0) (.int .i64 T) ((Below.heap_setCell w2 ⟨w.heap.size + 1, 2, none⟩ (.slice a2 L.length c2) w.heap.size (by simp)).trans r2)))
  have hB := (((hb3.setCell (p := ⟨w.heap.size + 1, 2, none⟩) (by simp) (.slice a2 L.length c2)).setCell (p := ⟨w.heap.size, 0, none⟩) (by simp) (.int .i64 T)).setCell (p := ⟨w.heap.size, 1, none⟩) (by simp) (.int .i64 V)).setCell (p := ⟨w.heap.size, 2, none⟩) (by simp) (.slice a2 L.length c2)
  have hR := ((((ho2.setBelow (b := w.heap.size + 1) (o := 2) (by simp) (.slice a2 L.length c2)).setBelow (b := w.heap.size) (o := 0) (by simp; omega) (.int .i64 T)).setBelow (b := w.heap.size) (o := 1) (by simp; omega) (.int .i64 V)).setBelow (b := w.heap.size) (o := 2) (by simp; omega) (.slice a2 L.length c2)).lower (base' := w.heap.size) (by simp; omega)
  generalize ((((w2.setCell ⟨w.heap.size + 1, 2, none⟩ (.slice a2 L.length c2)).setCell ⟨w.heap.size, 0, none⟩ (.int .i64 T)).setCell ⟨w.heap.size, 1, none⟩ (.int .i64 V)).setCell ⟨w.heap.size, 2, none⟩ (.slice a2 L.length c2)) = F at r3 hB hR ⊢
  have k0 : F.cell? ⟨w.heap.size, 0, none⟩ = some (.int .i64 T) := by rw [cell_of_row _ _ _ _ _ _ r3]; rfl
  have k1 : F.cell? ⟨w.heap.size, 1, none⟩ = some (.int .i64 V) := by rw [cell_of_row _ _ _ _ _ _ r3]; rfl
  have k2 : F.cell? ⟨w.heap.size, 2, none⟩ = some (.slice a2 L.length c2) := by rw [cell_of_row _ _ _ _ _ _ r3]; rfl
  exact bodyPost_ret (v := .agg #[.int .i64 T, .int .i64 V, .slice a2 L.length c2]) (by simp [results, Tryz.results16, go_sem, k0, k1, k2]) rfl ⟨_, rfl, hR, hB⟩
end Go.Proofs.YtipbfmalacnmkaaGreat
