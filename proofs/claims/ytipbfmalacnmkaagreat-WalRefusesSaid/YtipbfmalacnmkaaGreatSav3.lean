/- What the document's Weight returns, where what is saved weighs at most 2^40. -/
import Derived.Test.YtipbfmalacnmkaaGreatSav2
namespace Go.Proofs.YtipbfmalacnmkaaGreat
open Go.RowKit
def weightL : List Ent → Nat
  | [] => 0
  | x :: L => 32 + x.data.size + weightL L
theorem weightL_append (L M : List Ent) : weightL (L ++ M) = weightL L + weightL M := by
  induction L with
  | nil => simp [weightL]
  | cons x L ih => simp [weightL, ih]; omega
theorem weightL_take (L : List Ent) (k : Nat) : weightL (L.take k) ≤ weightL L := by
  have := weightL_append (L.take k) (L.drop k)
  rw [List.take_append_drop] at this
  omega
set_option maxRecDepth 10000 in
set_option maxHeartbeats 400000 in
theorem Weight_calls (T V : Int) (v : Value) (L : List Ent) (hw : weightL L ≤ 1099511627776) (w : World) (hv : RdE w.heap.size w v L) :
    Calls Tryz.prog 38 #[.agg #[.int .i64 T, .int .i64 V, v]] w fun e w' => e = .returned (.int .i64 ((64 + weightL L : Nat) : Int)) ∧ Below w.heap.size w w' := by
  obtain ⟨a, cap, rfl, hcap, hcap2⟩ := hv.shape
  have hlen : L.length ≤ 9223372036854775807 := by unfold maxLen at hcap2; omega
  have hv1 : RdE w.heap.size (w.alloc (.cells #[.int .i64 T, .int .i64 V, .slice a L.length cap] 27)) (.slice a L.length cap) L := hv.ext ((Ext.refl [] w).alloc _)
  have hbl : Below w.heap.size w (w.alloc (.cells #[.int .i64 T, .int .i64 V, .slice a L.length cap] 27)) := (Below.refl _ _).alloc (Nat.le_refl _) _
  have hlog : (w.alloc (.cells #[.int .i64 T, .int .i64 V, .slice a L.length cap] 27)).cell? ⟨w.heap.size, 2, none⟩ = some (.slice a L.length cap) := by simp [go_sem]
  go_enter Tryz.func38, Tryz.ntmps38
  go_wp2
  generalize w.alloc (.cells #[.int .i64 T, .int .i64 V, .slice a L.length cap] 27) = W at hv1 hbl hlog ⊢
  go_loop [3, 4] (fun n i => ∃ k m : Nat, k ≤ L.length ∧ i = .int .i64 k ∧ n = .int .i64 m ∧ m ≤ 1099511627776 + 64 ∧ Hid (m = 64 + weightL (L.take k))) (fun n i => (L.length - intOf i).toNat)
  case atStart => exact ⟨0, 64, by omega, rfl, rfl, by omega, Lib.hid (by simp [weightL])⟩
  case round =>
    obtain ⟨k, m, hk, rfl, rfl, hm, hw2⟩ := hrel
    by_cases hk2 : k < L.length
    · obtain ⟨b, off, rfl, _, _, hcell⟩ := RdE.cell hv1 (by omega)
      have hc := (hcell k hk2).2
      clear hcell
      have hst : weightL (L.take (k + 1)) = weightL (L.take k) + (32 + L[k].data.size) := by
        rw [List.take_succ_eq_append_getElem hk2, weightL_append]
        simp [weightL]
      have hle := weightL_take L (k + 1)
      have hds : L[k].data.size ≤ 1099511627776 := by omega
      have HS := Lib.hid hst
      clear hst
      generalize hx : L[k] = x at hc hds
      have HX := Lib.hid hx
      clear hx
      go_wp2
      go_round
      case rel =>
        have e := HS.out
        rw [HX.out] at e
        have e2 := hw2.out
        exact ⟨k + 1, m + 32 + x.data.size, by omega, by go_num, by go_num, by omega, Lib.hid (by omega)⟩
      case measure => simp [intOf]; omega
    · obtain rfl : k = L.length := by omega
      go_wp2
      go_ret
      have e2 := hw2.out
      rw [List.take_length] at e2
      exact ⟨by rw [show (64 + (weightL L : Int)) = (m : Int) by omega]; rfl, hbl⟩
end Go.Proofs.YtipbfmalacnmkaaGreat
