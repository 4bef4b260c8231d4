/- What slices.Equal, and the document's Same and Weight return. -/
import Derived.Test.YtipbfmalacnmkaaGreatSav1
namespace Go.Proofs.YtipbfmalacnmkaaGreat
open Go.RowKit
theorem drewN_drewN (w : World) (a b : Nat) : (w.drewN a).drewN b = w.drewN (a + b) := by
  simp [World.drewN, Nat.add_assoc]
theorem neq29 (x y : Ent) (w : World) : (binOp .neq 29 (.agg #[.int .i64 x.term, .string x.data]) (.agg #[.int .i64 y.term, .string y.data])).run Tryz.prog w = .ok (.bool (!decide (x = y))) w := by
  rw [run_neq_struct]
  have h : (Op.equalIn 10000 29 (.agg #[.int .i64 x.term, .string x.data]) (.agg #[.int .i64 y.term, .string y.data])).run Tryz.prog w = .ok (decide (x = y)) w := by
    simp [go_sem]
    have hd : ∀ a b : ByteArray, a.toList = b.toList ↔ a = b := fun a b => ⟨fun h => by
      rw [ByteArray.toList_eq, ByteArray.toList_eq] at h
      obtain ⟨x⟩ := a
      obtain ⟨y⟩ := b
      congr
      exact Array.ext' h, fun h => by rw [h]⟩
    obtain ⟨t, d⟩ := x
    obtain ⟨t', d'⟩ := y
    simp only [hd]
    by_cases h1 : t = t'
    · by_cases h2 : d = d'
      · subst h1; subst h2; simp
      · simp [h1, h2]
    · simp [h1]
  rw [h]
  rfl
set_option maxRecDepth 10000 in
set_option maxHeartbeats 400000 in
theorem Equal_calls (v u : Value) (L M : List Ent) (w : World) (hv : RdE w.heap.size w v L) (hu : RdE w.heap.size w u M) :
    Calls Tryz.prog 32 #[v, u] w fun e w' => e = .returned (.bool (decide (L = M))) ∧ ∃ nq, w' = w.drewN nq := by
  obtain ⟨a, cap, rfl, hcap, hcap2⟩ := hv.shape
  obtain ⟨a', cap', rfl, hcap', hcap2'⟩ := hu.shape
  have hlen : L.length ≤ 9223372036854775807 := by unfold maxLen at hcap2; omega
  have hlen' : M.length ≤ 9223372036854775807 := by unfold maxLen at hcap2'; omega
  by_cases hLM : L.length = M.length
  · have hn : ((L.length : Int) != (M.length : Int)) = false := by rw [bne_eq_false_iff_eq]; omega
    have HL := Lib.hid hLM
    clear hLM
    go_enter Tryz.func32, Tryz.ntmps32
    go_wp2
    go_loopw [5, 13] (fun _ i wr => ∃ k nq : Nat, k ≤ L.length ∧ i = .int .i64 k ∧ wr = w.drewN nq ∧ Hid (L.take k = M.take k)) (fun _ i wr => (L.length - intOf i).toNat)
    case atStart => exact ⟨0, 0, by omega, rfl, rfl, Lib.hid rfl⟩
    case round =>
      obtain ⟨k, nq, hk, rfl, rfl, heq⟩ := hrel
      by_cases hk2 : k < L.length
      · have hk3 : k < M.length := by rw [← HL.out]; exact hk2
        obtain ⟨b, off, rfl, _, _, hcell⟩ := RdE.cell hv (by omega)
        obtain ⟨b', off', rfl, _, _, hcell'⟩ := RdE.cell hu (by omega)
        have hc := (hcell k hk2).1
        have hc1 := (hcell k hk2).2
        have hd := (hcell' k hk3).1
        have hd1 := (hcell' k hk3).2
        clear hcell hcell'
        generalize hx : L[k] = x at hc hc1
        generalize hy : M[k] = y at hd hd1
        have HX := Lib.hid hx
        have HY := Lib.hid hy
        clear hx hy
        by_cases hxy : x = y
        · have hne : ∀ W, (binOp .neq 29 (.agg #[.int .i64 x.term, .string x.data]) (.agg #[.int .i64 y.term, .string y.data])).run Tryz.prog W = .ok (.bool false) W := fun W => by rw [neq29]; simp [hxy]
          have HE := Lib.hid hxy
          clear hxy
          go_wp2
          go_quiet (fail)
          go_wp2
          go_roundw
          case rel =>
            refine ⟨k + 1, _, by omega, by go_num, rfl, Lib.hid ?_⟩
            rw [List.take_succ_eq_append_getElem hk2, List.take_succ_eq_append_getElem hk3, heq.out, HX.out, HY.out, HE.out]
          case measure => simp [intOf]; omega
        · have hne : ∀ W, (binOp .neq 29 (.agg #[.int .i64 x.term, .string x.data]) (.agg #[.int .i64 y.term, .string y.data])).run Tryz.prog W = .ok (.bool true) W := fun W => by rw [neq29]; simp [hxy]
          have HE := Lib.hid hxy
          clear hxy
          go_wp2
          go_quiet (fail)
          go_wp2
          go_ret
          refine ⟨?_, _, drewN_drewN _ _ _⟩
          have : L ≠ M := by
            rintro rfl
            exact HE.out (HX.out.symm.trans HY.out)
          simp [this]
      · obtain rfl : k = L.length := by omega
        go_wp2
        go_ret
        refine ⟨?_, _, rfl⟩
        have h1 := heq.out
        rw [List.take_length, List.take_of_length_le (by rw [HL.out]; omega)] at h1
        simp [h1]
  · have hn : ((L.length : Int) != (M.length : Int)) = true := by rw [bne_iff_ne]; omega
    have hr : decide (L = M) = false := by
      rw [decide_eq_false_iff_not]
      rintro rfl
      exact hLM rfl
    have HR := Lib.hid hr
    clear hr hLM
    go_enter Tryz.func32, Tryz.ntmps32
    go_wp2
    go_ret
    exact ⟨by rw [HR.out]; rfl, 0, rfl⟩

def sameB (s t : Sv) : Bool := decide (s.term = t.term) && decide (s.vote = t.vote) && decide (s.log = t.log)
theorem same_not_term {s t : Sv} (h : ¬ s.term = t.term) : sameB s t = false := by simp [sameB, h]
theorem same_not_vote {s t : Sv} (h : ¬ s.vote = t.vote) : sameB s t = false := by simp [sameB, h]
theorem same_not_log {s t : Sv} (h : ¬ s.log = t.log) : sameB s t = false := by simp [sameB, h]
theorem same_of {s t : Sv} (h1 : s.term = t.term) (h2 : s.vote = t.vote) (h3 : s.log = t.log) : sameB s t = true := by simp [sameB, h1, h2, h3]

set_option maxRecDepth 10000 in
set_option maxHeartbeats 1000000 in
theorem Same_calls (v u : Value) (s t : Sv) (w : World) (hv : RdE w.heap.size w v s.log) (hu : RdE w.heap.size w u t.log) :
    Calls Tryz.prog 15 #[.agg #[.int .i64 s.term, .int .i64 s.vote, v], .agg #[.int .i64 t.term, .int .i64 t.vote, u]] w fun e w' => e = .returned (.bool (sameB s t)) ∧ Below w.heap.size w w' := by
  obtain ⟨a, cap, rfl, hcap, hcap2⟩ := hv.shape
  obtain ⟨a', cap', rfl, hcap', hcap2'⟩ := hu.shape
  have hlen : s.log.length ≤ 9223372036854775807 := by unfold maxLen at hcap2; omega
  have hlen' : t.log.length ≤ 9223372036854775807 := by unfold maxLen at hcap2'; omega
  by_cases h1 : s.term = t.term
  case neg =>
    have HR := Lib.hid (same_not_term h1)
    have hb : (s.term != t.term) = true := by rw [bne_iff_ne]; exact h1
    clear h1
    go_enter Tryz.func15, Tryz.ntmps15
    go_wp2
    go_ret
    exact ⟨by rw [HR.out]; rfl, ((Below.refl _ _).alloc (Nat.le_refl _) _).alloc (by simp) _⟩
  have hb1 : (s.term != t.term) = false := by rw [bne_eq_false_iff_eq]; exact h1
  have H1 := Lib.hid h1
  clear h1
  by_cases h2 : s.vote = t.vote
  case neg =>
    have HR := Lib.hid (same_not_vote h2)
    have hb : (s.vote != t.vote) = true := by rw [bne_iff_ne]; exact h2
    clear h2
    go_enter Tryz.func15, Tryz.ntmps15
    go_wp2
    go_ret
    exact ⟨by rw [HR.out]; rfl, ((Below.refl _ _).alloc (Nat.le_refl _) _).alloc (by simp) _⟩
  have hb2 : (s.vote != t.vote) = false := by rw [bne_eq_false_iff_eq]; exact h2
  have H2 := Lib.hid h2
  clear h2
  by_cases h3 : s.log.length = t.log.length
  case neg =>
    have hnl : ¬ s.log = t.log := fun h => h3 (by rw [h])
    have HR := Lib.hid (same_not_log hnl)
    have hb : ((s.log.length : Int) != (t.log.length : Int)) = true := by rw [bne_iff_ne]; omega
    clear h3 hnl
    go_enter Tryz.func15, Tryz.ntmps15
    go_wp2
    go_ret
    exact ⟨by rw [HR.out]; rfl, ((Below.refl _ _).alloc (Nat.le_refl _) _).alloc (by simp) _⟩
  have hb3 : ((s.log.length : Int) != (t.log.length : Int)) = false := by rw [bne_eq_false_iff_eq]; omega
  have HL := Lib.hid h3
  clear h3
  have hx0 : Ext [] w ((w.alloc (.cells #[.int .i64 s.term, .int .i64 s.vote, .slice a s.log.length cap] 27)).alloc (.cells #[.int .i64 t.term, .int .i64 t.vote, .slice a' t.log.length cap'] 27)) := ((Ext.refl [] w).alloc _).alloc _
  have c1 : ((w.alloc (.cells #[.int .i64 s.term, .int .i64 s.vote, .slice a s.log.length cap] 27)).alloc (.cells #[.int .i64 t.term, .int .i64 t.vote, .slice a' t.log.length cap'] 27)).cell? ⟨w.heap.size, 2, none⟩ = some (.slice a s.log.length cap) := by simp [go_sem]
  have c2 : ((w.alloc (.cells #[.int .i64 s.term, .int .i64 s.vote, .slice a s.log.length cap] 27)).alloc (.cells #[.int .i64 t.term, .int .i64 t.vote, .slice a' t.log.length cap'] 27)).cell? ⟨w.heap.size + 1, 2, none⟩ = some (.slice a' t.log.length cap') := by simp [go_sem]
  have hBl : Below w.heap.size w ((w.alloc (.cells #[.int .i64 s.term, .int .i64 s.vote, .slice a s.log.length cap] 27)).alloc (.cells #[.int .i64 t.term, .int .i64 t.vote, .slice a' t.log.length cap'] 27)) := ((Below.refl _ _).alloc (Nat.le_refl _) _).alloc (by simp) _
  have hv1 := hv.ext hx0
  have hu1 := hu.ext hx0
  go_enter Tryz.func15, Tryz.ntmps15
  go_wp2
  generalize (w.alloc (.cells #[.int .i64 s.term, .int .i64 s.vote, .slice a s.log.length cap] 27)).alloc (.cells #[.int .i64 t.term, .int .i64 t.vote, .slice a' t.log.length cap'] 27) = W at hx0 c1 c2 hBl hv1 hu1 ⊢
  go_loopw [5] (fun i wr => ∃ k nq : Nat, k ≤ s.log.length ∧ i = .int .i64 k ∧ wr = W.drewN nq ∧ Hid (s.log.take k = t.log.take k)) (fun i wr => (s.log.length - intOf i).toNat)
  case atStart => exact ⟨0, 0, by omega, rfl, rfl, Lib.hid rfl⟩
  case round =>
    obtain ⟨k, nq, hk, rfl, rfl, heq⟩ := hrel
    by_cases hk2 : k < s.log.length
    · have hk3 : k < t.log.length := by rw [← HL.out]; exact hk2
      obtain ⟨b, off, rfl, _, _, hcell⟩ := RdE.cell hv1 (by omega)
      obtain ⟨b', off', rfl, _, _, hcell'⟩ := RdE.cell hu1 (by omega)
      have hc := (hcell k hk2).1
      have hc1 := (hcell k hk2).2
      have hd := (hcell' k hk3).1
      have hd1 := (hcell' k hk3).2
      clear hcell hcell'
      generalize hx : s.log[k] = x at hc hc1
      generalize hy : t.log[k] = y at hd hd1
      have HX := Lib.hid hx
      have HY := Lib.hid hy
      clear hx hy
      by_cases hxy : x = y
      · have hne : ∀ W, (binOp .neq 29 (.agg #[.int .i64 x.term, .string x.data]) (.agg #[.int .i64 y.term, .string y.data])).run Tryz.prog W = .ok (.bool false) W := fun W => by rw [neq29]; simp [hxy]
        have HE := Lib.hid hxy
        clear hxy
        go_wp2
        go_quiet (fail)
        go_wp2
        go_roundw
        case rel =>
          refine ⟨k + 1, _, by omega, by go_num, rfl, Lib.hid ?_⟩
          rw [List.take_succ_eq_append_getElem hk2, List.take_succ_eq_append_getElem hk3, heq.out, HX.out, HY.out, HE.out]
        case measure => simp [intOf]; omega
      · have hne : ∀ W, (binOp .neq 29 (.agg #[.int .i64 x.term, .string x.data]) (.agg #[.int .i64 y.term, .string y.data])).run Tryz.prog W = .ok (.bool true) W := fun W => by rw [neq29]; simp [hxy]
        have HE := Lib.hid hxy
        clear hxy
        go_wp2
        go_quiet (fail)
        go_wp2
        go_ret
        have hnl : ¬ s.log = t.log := by
          intro h
          apply HE.out
          rw [← HX.out, ← HY.out]
          simp [h]
        refine ⟨by rw [same_not_log hnl]; rfl, ⟨hBl.os, hBl.tape, hBl.output, hBl.size, hBl.block⟩⟩
    · obtain rfl : k = s.log.length := by omega
      go_wp2
      go_ret
      have h1 := heq.out
      rw [List.take_length, List.take_of_length_le (by rw [HL.out]; omega)] at h1
      exact ⟨by rw [same_of H1.out H2.out h1]; rfl, ⟨hBl.os, hBl.tape, hBl.output, hBl.size, hBl.block⟩⟩
end Go.Proofs.YtipbfmalacnmkaaGreat
