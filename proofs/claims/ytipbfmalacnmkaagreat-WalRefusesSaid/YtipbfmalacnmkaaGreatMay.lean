/- What may, May, Clone, Equal, Copy, Same, Weight and Nothing return. -/
import Derived.Test.YtipbfmalacnmkaaGreatEnt
namespace Go.Proofs.YtipbfmalacnmkaaGreat
open Go.RowKit

theorem all_false {L : List Ent} {k : Nat} (hk : k < L.length) (h : entOk L[k] = false) : L.all entOk = false := by
  rw [List.all_eq_false]
  exact ⟨L[k], List.getElem_mem hk, by rw [h]; simp⟩

set_option maxRecDepth 10000 in
set_option maxHeartbeats 1000000 in
theorem may_calls (lv : Value) (s : Sv) (hL : ∀ x ∈ s.log, x.data.size ≤ maxLen) (w : World) (hv : RdE w.heap.size w lv s.log) :
    Calls Tryz.prog 28 #[.agg #[.int .i64 s.term, .int .i64 s.vote, lv]] w fun e w' => e = .returned (.bool (mayB s)) ∧ Below w.heap.size w w' := by
  obtain ⟨a, cap, rfl, hcap, hcap2⟩ := hv.shape
  have hlen : s.log.length ≤ 9223372036854775807 := by unfold maxLen at hcap2; omega
  by_cases hc0 : s.term < 0
  · have hr : mayB s = false := by unfold mayB; simp; omega
    have HR := Lib.hid hr
    clear hr
    go_enter Tryz.func28, Tryz.ntmps28
    go_wp2_with fail
    go_ret
    exact ⟨by rw [HR.out]; rfl, (Below.refl _ _).alloc (Nat.le_refl _) _⟩
  have hd0 : decide (s.term < 0) = false := by simpa using hc0
  by_cases hc1 : 1152921504606846976 < s.term
  · have hr : mayB s = false := by unfold mayB; simp; omega
    have HR := Lib.hid hr
    clear hr
    go_enter Tryz.func28, Tryz.ntmps28
    go_wp2_with fail
    go_ret
    exact ⟨by rw [HR.out]; rfl, (Below.refl _ _).alloc (Nat.le_refl _) _⟩
  have hd1 : decide (1152921504606846976 < s.term) = false := by simpa using hc1
  by_cases hc2 : s.vote < -1
  · have hr : mayB s = false := by unfold mayB; simp; omega
    have HR := Lib.hid hr
    clear hr
    go_enter Tryz.func28, Tryz.ntmps28
    go_wp2_with fail
    go_ret
    exact ⟨by rw [HR.out]; rfl, (Below.refl _ _).alloc (Nat.le_refl _) _⟩
  have hd2 : decide (s.vote < -1) = false := by simpa using hc2
  by_cases hc3 : 7 ≤ s.vote
  · have hr : mayB s = false := by unfold mayB; simp; omega
    have HR := Lib.hid hr
    clear hr
    go_enter Tryz.func28, Tryz.ntmps28
    go_wp2_with fail
    go_ret
    exact ⟨by rw [HR.out]; rfl, (Below.refl _ _).alloc (Nat.le_refl _) _⟩
  have hd3 : decide (7 ≤ s.vote) = false := by simpa using hc3
  by_cases hc4 : 4096 < (s.log.length : Int)
  · have hr : mayB s = false := by unfold mayB; simp; omega
    have HR := Lib.hid hr
    clear hr
    go_enter Tryz.func28, Tryz.ntmps28
    go_wp2_with fail
    go_ret
    exact ⟨by rw [HR.out]; rfl, (Below.refl _ _).alloc (Nat.le_refl _) _⟩
  have hd4 : decide (4096 < (s.log.length : Int)) = false := by simpa using hc4
  have hr : mayB s = s.log.all entOk := by
    have e : (decide (0 ≤ s.term) && decide (s.term ≤ 1152921504606846976) && decide (-1 ≤ s.vote) && decide (s.vote ≤ 6) && decide (s.log.length ≤ 4096)) = true := by simp; omega
    unfold mayB
    rw [e, Bool.true_and]
  have HR := Lib.hid hr
  clear hr
  go_enter Tryz.func28, Tryz.ntmps28
  go_wp2_with (go_at_call 50; refine (ContainsFunc_calls _ s.log hL _ ((hv.ext ((Ext.refl [] w).alloc _)).mono (by simp))).mono ?_; rintro e w1 ⟨rfl, hb⟩)
  go_ret
  exact ⟨by rw [HR.out]; simp, ((Below.refl _ _).alloc (Nat.le_refl _) _).trans (hb.mono (by simp))⟩


set_option maxRecDepth 10000 in
set_option maxHeartbeats 2000000 in
theorem May_calls (lv : Value) (s : Sv) (hL : ∀ x ∈ s.log, x.data.size ≤ maxLen) (w : World) (hv : RdE w.heap.size w lv s.log) :
    Calls Tryz.prog 13 #[.agg #[.int .i64 s.term, .int .i64 s.vote, lv]] w fun e w' => e = .returned (.bool (mayB s)) ∧ Below w.heap.size w w' := by
  obtain ⟨a, cap, rfl, hcap, hcap2⟩ := hv.shape
  have hlen : s.log.length ≤ 9223372036854775807 := by unfold maxLen at hcap2; omega
  by_cases hc0 : s.term < 0
  · have hr : mayB s = false := by unfold mayB; simp; omega
    have HR := Lib.hid hr
    clear hr
    go_enter Tryz.func13, Tryz.ntmps13
    go_wp2_with fail
    go_ret
    exact ⟨by rw [HR.out]; rfl, (Below.refl _ _).alloc (Nat.le_refl _) _⟩
  have hd0 : decide (s.term < 0) = false := by simpa using hc0
  by_cases hc1 : 1152921504606846976 < s.term
  · have hr : mayB s = false := by unfold mayB; simp; omega
    have HR := Lib.hid hr
    clear hr
    go_enter Tryz.func13, Tryz.ntmps13
    go_wp2_with fail
    go_ret
    exact ⟨by rw [HR.out]; rfl, (Below.refl _ _).alloc (Nat.le_refl _) _⟩
  have hd1 : decide (1152921504606846976 < s.term) = false := by simpa using hc1
  by_cases hc2 : s.vote < -1
  · have hr : mayB s = false := by unfold mayB; simp; omega
    have HR := Lib.hid hr
    clear hr
    go_enter Tryz.func13, Tryz.ntmps13
    go_wp2_with fail
    go_ret
    exact ⟨by rw [HR.out]; rfl, (Below.refl _ _).alloc (Nat.le_refl _) _⟩
  have hd2 : decide (s.vote < -1) = false := by simpa using hc2
  by_cases hc3 : 6 < s.vote
  · have hr : mayB s = false := by unfold mayB; simp; omega
    have HR := Lib.hid hr
    clear hr
    go_enter Tryz.func13, Tryz.ntmps13
    go_wp2_with fail
    go_ret
    exact ⟨by rw [HR.out]; rfl, (Below.refl _ _).alloc (Nat.le_refl _) _⟩
  have hd3 : decide (6 < s.vote) = false := by simpa using hc3
  by_cases hc4 : 4096 < (s.log.length : Int)
  · have hr : mayB s = false := by unfold mayB; simp; omega
    have HR := Lib.hid hr
    clear hr
    go_enter Tryz.func13, Tryz.ntmps13
    go_wp2_with fail
    go_ret
    exact ⟨by rw [HR.out]; rfl, (Below.refl _ _).alloc (Nat.le_refl _) _⟩
  have hd4 : decide (4096 < (s.log.length : Int)) = false := by simpa using hc4
  have hr : mayB s = s.log.all entOk := by
    have e : (decide (0 ≤ s.term) && decide (s.term ≤ 1152921504606846976) && decide (-1 ≤ s.vote) && decide (s.vote ≤ 6) && decide (s.log.length ≤ 4096)) = true := by simp; omega
    unfold mayB
    rw [e, Bool.true_and]
  have HR := Lib.hid hr
  clear hr
  have hl4 : s.log.length ≤ 4096 := by omega
  have hv1 : RdE w.heap.size (w.alloc (.cells #[.int .i64 s.term, .int .i64 s.vote, .slice a s.log.length cap] 27)) (.slice a s.log.length cap) s.log := hv.ext ((Ext.refl [] w).alloc _)
  have hbl : Below w.heap.size w (w.alloc (.cells #[.int .i64 s.term, .int .i64 s.vote, .slice a s.log.length cap] 27)) := (Below.refl _ _).alloc (Nat.le_refl _) _
  have hlog : (w.alloc (.cells #[.int .i64 s.term, .int .i64 s.vote, .slice a s.log.length cap] 27)).cell? ⟨w.heap.size, 2, none⟩ = some (.slice a s.log.length cap) := by simp [go_sem]
  go_enter Tryz.func13, Tryz.ntmps13
  go_wp2
  generalize w.alloc (.cells #[.int .i64 s.term, .int .i64 s.vote, .slice a s.log.length cap] 27) = W at hv1 hbl hlog ⊢
  go_loop [3] (fun i => ∃ k : Nat, k ≤ s.log.length ∧ i = .int .i64 k ∧ Hid ((s.log.take k).all entOk = true)) (fun i => (s.log.length - intOf i).toNat)
  case atStart => exact ⟨0, by omega, rfl, Lib.hid (by simp)⟩
  case round =>
    obtain ⟨k, hk, rfl, hall⟩ := hrel
    by_cases hk2 : k < s.log.length
    · obtain ⟨b, off, rfl, _, _, hcell⟩ := RdE.cell hv1 (by omega)
      have hc := (hcell k hk2).1
      have hc' := (hcell k hk2).2
      clear hcell
      have hsz := hL s.log[k] (List.getElem_mem hk2)
      unfold maxLen at hsz
      generalize hx : s.log[k] = x at hc hc' hsz
      have HX := Lib.hid hx
      clear hx
      by_cases h1 : x.term < 1
      · go_wp2
        go_ret
        refine ⟨?_, hbl⟩
        rw [HR.out, (all_false hk2 (by rw [HX.out]; simp [entOk]; omega) : s.log.all entOk = false)]
        rfl
      by_cases h2 : 1152921504606846976 < x.term
      · have hd1 : decide (x.term < 1) = false := by simpa using h1
        go_wp2
        go_ret
        refine ⟨?_, hbl⟩
        rw [HR.out, (all_false hk2 (by rw [HX.out]; simp [entOk]; omega) : s.log.all entOk = false)]
        rfl
      by_cases h3 : 65536 < (x.data.size : Int)
      · have hd1 : decide (x.term < 1) = false := by simpa using h1
        have hd2 : decide (1152921504606846976 < x.term) = false := by simpa using h2
        go_wp2
        go_ret
        refine ⟨?_, hbl⟩
        rw [HR.out, (all_false hk2 (by rw [HX.out]; simp [entOk]; omega) : s.log.all entOk = false)]
        rfl
      · have hd1 : decide (x.term < 1) = false := by simpa using h1
        have hd2 : decide (1152921504606846976 < x.term) = false := by simpa using h2
        have hd3 : decide (65536 < (x.data.size : Int)) = false := by simpa using h3
        go_wp2
        go_round
        case rel =>
          refine ⟨k + 1, by omega, by go_num, Lib.hid ?_⟩
          rw [List.take_succ_eq_append_getElem hk2, List.all_append, hall.out, HX.out]
          simp [entOk]; omega
        case measure => simp [intOf]; omega
    · obtain rfl : k = s.log.length := by omega
      go_wp2
      go_ret
      refine ⟨?_, hbl⟩
      have := hall.out
      rw [List.take_length] at this
      rw [HR.out, this]
      rfl

end Go.Proofs.YtipbfmalacnmkaaGreat
