/- What Clone, Nothing, Copy return. -/
import Derived.Test.YtipbfmalacnmkaaGreatMay
namespace Go.Proofs.YtipbfmalacnmkaaGreat
open Go.RowKit
theorem OwnE.setBelow {w : World} {base : Nat} {v : Value} {L : List Ent} (h : OwnE w base v L) {b o : Nat} (hb : b < base) (u : Value) : OwnE (w.setCell ⟨b, o, none⟩ u) base v L := ownsRow_setCell_below h hb u
theorem eqlNil25 (a : Option Addr) (n c : Nat) (w : World) : (binOp .eql 25 (.slice a n c) (.slice none 0 0)).run Tryz.prog w = .ok (.bool a.isNone) w := Lib.run_eql_slice_nil w 25 29 a n c 0 0 Tryz.underlying25
set_option maxRecDepth 10000 in
set_option maxHeartbeats 400000 in
theorem Clone_calls (v : Value) (L : List Ent) (hl : L.length ≤ 1099511627776) (w : World) (hv : RdE w.heap.size w v L) :
    Calls Tryz.prog 34 #[v] w fun e w' => ∃ v', e = .returned v' ∧ OwnE w' w.heap.size v' L ∧ Below w.heap.size w w' := by
  obtain ⟨a, cap, rfl, hcap, hcap2⟩ := hv.shape
  have hq := eqlNil25
  cases a with
  | none =>
    have hL : L = [] := by
      obtain ⟨_, _, e1, _, _, _, e5⟩ := hv
      cases e1
      rcases e5 with e5 | ⟨_, _, _, _, e6, _⟩
      · exact List.eq_nil_of_length_eq_zero e5
      · cases e6
    subst hL
    go_enter Tryz.func34, Tryz.ntmps34
    go_wp2
    go_ret
    exact ⟨_, rfl, OwnE.nil _ _, Below.refl _ _⟩
  | some a =>
    have hown0 : OwnE (w.alloc (.cells #[] 29)) w.heap.size (.slice (some ⟨w.heap.size, 0, none⟩) 0 0) [] := ⟨rfl, .inr ⟨w.heap.size, 0, #[], rfl, Nat.le_refl _, heap_alloc_new _ _, Nat.le_refl _, Nat.zero_le _, rfl, rfl⟩⟩
    go_enter Tryz.func34, Tryz.ntmps34
    go_wp2_with (at_builtin; refine wpList_appE _ rfl _ _ rfl w.heap.size _ [] rfl hown0 _ L rfl (RdE.src (hv.ext ((Ext.refl [] w).alloc _))) (by simp; omega) (by simp) ?_; intro v4 w4 ho4 hg4)
    go_ret
    exact ⟨v4, rfl, ho4, ((Below.refl _ _).alloc (Nat.le_refl _) _).grown hg4 (by simp) (fun j hj => (OwnE.lt hown0 j hj).1)⟩

set_option maxRecDepth 10000 in
set_option maxHeartbeats 400000 in
theorem Nothing_calls (w : World) : Calls Tryz.prog 20 #[] w fun e w' => e = .returned (.agg #[.int .i64 0, .int .i64 (-1), .slice none 0 0]) ∧ Below w.heap.size w w' := by
  go_enter Tryz.func20, Tryz.ntmps20
  go_wp2
  exact bodyPost_ret (v := .agg #[.int .i64 0, .int .i64 (-1), .slice none 0 0]) (by simp [results, Tryz.results20, go_sem]) rfl ⟨rfl, (Below.refl _ _).alloc (Nat.le_refl _) _⟩
set_option maxRecDepth 10000 in
set_option maxHeartbeats 400000 in
theorem Copy_calls (T V : Int) (lv : Value) (L : List Ent) (hl : L.length ≤ 1099511627776) (w : World) (hv : RdE w.heap.size w lv L) :
    Calls Tryz.prog 10 #[.agg #[.int .i64 T, .int .i64 V, lv]] w fun e w' => ∃ v', e = .returned (.agg #[.int .i64 T, .int .i64 V, v']) ∧ OwnE w' w.heap.size v' L ∧ Below w.heap.size w w' := by
  obtain ⟨a, cap, rfl, hcap, hcap2⟩ := hv.shape
  go_enter Tryz.func10, Tryz.ntmps10
  have hv3 := hv.ext ((((Ext.refl [] w).alloc (.cells #[.int .i64 T, .int .i64 V, .slice a L.length cap] 27)).alloc (.cells #[.int .i64 0, .int .i64 0, .slice none 0 0] 27)).alloc (.cells #[.int .i64 T, .int .i64 V, .slice none 0 0] 27))
  go_wp2_with (at_builtin; refine wpList_appE _ rfl _ _ rfl (w.heap.size + 3) _ [] rfl (OwnE.nil _ _) _ L rfl (RdE.src hv3) (by simp; omega) (by simp) ?_; intro v4 w4 ho4 hg4; obtain ⟨hc4, hf4⟩ := Ext.cells ((Ext.refl [] _).grown hg4 (fun k hk => by cases hk)); have hz4 := hg4.size; simp at hz4; rw [List.nil_append] at ho4; have HG := Lib.hid hg4; clear hg4; obtain ⟨a4, cap4, rfl, hcap4, hcap5⟩ := (OwnE.rd ho4).shape)
  have hgr : Below w.heap.size w w4 := by
    refine (((Below.refl _ _).alloc (Nat.le_refl _) _ |>.alloc (by simp) _).alloc (by simp; omega) _).grown HG.out (by simp; omega) (fun k hk => by cases hk)
  refine bodyPost_ret (v := .agg #[.int .i64 T, .int .i64 V, .slice a4 L.length cap4]) (by simp [results, Tryz.results10, go_sem, hc4]) rfl ⟨_, rfl, ?_, ?_⟩
  · exact ((((ho4.setBelow (by omega) _).setBelow (by omega) _).setBelow (by omega) _).setBelow (by omega) _).lower (by omega)
  · exact (((hgr.setCell (p := ⟨w.heap.size + 1 + 1, 2, none⟩) (by simp; omega) _).setCell (p := ⟨w.heap.size + 1, 0, none⟩) (by simp) _).setCell (p := ⟨w.heap.size + 1, 1, none⟩) (by simp) _).setCell (p := ⟨w.heap.size + 1, 2, none⟩) (by simp) _
end Go.Proofs.YtipbfmalacnmkaaGreat
