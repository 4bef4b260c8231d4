/- What the frame's look and Read return: of bytes that begin with a whole frame, and of bytes that are a proper beginning of one. -/
import Derived.Test.YtipbfmalacnmkaaGreatFrame2
namespace Go.Proofs.YtipbfmalacnmkaaGreat
open Go.RowKit

theorem frame_head {body p q : List UInt8} (h : frame body = p ++ q) (h8 : 8 ≤ p.length) : ∃ p', p = put32 body.length ++ (put32 (sum32 (put32 body.length)) ++ p') := by
  refine ⟨p.drop 8, ?_⟩
  have h1 := congrArg (List.take 8) h
  rw [List.take_append_of_le_length h8] at h1
  rw [← List.append_assoc]
  conv => lhs; rw [← List.take_append_drop 8 p]
  rw [← h1, frame, ← List.append_assoc, List.take_left' (by rfl)]
set_option maxRecDepth 10000 in
set_option maxHeartbeats 2000000 in
theorem look_short (v : Value) (body p q : List UInt8) (hl : body.length ≤ 65536) (hpq : frame body = p ++ q) (hq : q ≠ []) (w : World) (hv : RdB w.heap.size w v p) :
    Calls Tryz.prog 89 #[v] w fun e w' => e = .returned (.tuple #[.int .i64 0, .int .i64 (p.length : Nat), .int .i64 4]) ∧ Below w.heap.size w w' := by
  obtain ⟨a, cap, rfl, hcap, hcap2⟩ := hv.shape
  have hlen : p.length < body.length + 12 := by
    have h1 := congrArg List.length hpq
    rw [frame_length, List.length_append] at h1
    have : 0 < q.length := List.length_pos_iff.2 hq
    omega
  by_cases h8 : p.length < 8
  · clear hpq hq
    go_enter Tryz.func89, Tryz.ntmps89
    go_wp2_with fail
    go_ret3
    exact ⟨rfl, Below.refl _ _⟩
  · obtain ⟨p', hp'⟩ := frame_head hpq (by omega)
    clear hpq hq
    obtain ⟨b, off, rfl, _, _, _⟩ := Rd.cell hv (by omega)
    have hp : ∀ n, (put32 n).length = 4 := fun n => rfl
    have hsp := sum32_lt (put32 body.length)
    have hv4 : RdB w.heap.size w (.slice (some ⟨b, off + 4, none⟩) (p.length - 4) (cap - 4)) (put32 (sum32 (put32 body.length)) ++ p') := by
      have := RdB.part rfl hv 4 p.length (cap - 4) (by omega) (by omega) (by omega) (by omega)
      rw [List.take_of_length_le (by simp)] at this
      have e : p.drop 4 = put32 (sum32 (put32 body.length)) ++ p' := by rw [hp', List.drop_left' (by rfl)]
      rwa [e] at this
    have hv0 : RdB w.heap.size w (.slice (some ⟨b, off, none⟩) 4 cap) (put32 body.length) := by
      have := RdB.part rfl hv 0 4 cap (by omega) (by omega) (by omega) (by omega)
      have e : (p.drop 0).take (4 - 0) = put32 body.length := by rw [hp', List.drop_zero, List.take_left' (by rfl)]
      rwa [e] at this
    have hl' : p'.length ≤ 70000 := by
      have := congrArg List.length hp'
      simp only [List.length_append, hp] at this
      omega
    have hv1 : RdB w.heap.size w (.slice (some ⟨b, off, none⟩) p.length cap) (put32 body.length ++ (put32 (sum32 (put32 body.length)) ++ p')) := by rw [← hp']; exact hv
    clear hp' hv
    go_enter Tryz.func89, Tryz.ntmps89
    go_wp2_with fail
    refine (get_calls w.heap.size _ body.length (by omega) _ w hv1 (by simp only [List.length_append, hp]; omega)).mono ?_
    rintro e w1 ⟨rfl, nq, rfl⟩
    go_upto_region 4 with fail
    go_cut [13] (fun s13 wc => s13 = .bool false ∧ Below w.heap.size w wc)
    case first =>
      go_region_with (first | (go_at_call 104; refine (get_calls w.heap.size _ _ hsp _ _ (by exact hv4) (by omega)).mono ?_; rintro e w1 ⟨rfl, nq1, rfl⟩) | (go_at_call 74; refine (Sum_calls _ _ _ (by exact hv0) (by simp [hp])).mono ?_; rintro e w2 ⟨rfl, hb2⟩))
      all_goals (go_wp2_with fail; go_meet; exact ⟨rfl, below_undrew hb2⟩)
    case rest =>
      obtain ⟨rfl, hb⟩ := hcut
      go_wp2_with fail
      go_ret3
      exact ⟨rfl, hb⟩

set_option maxRecDepth 10000 in
set_option maxHeartbeats 400000 in
theorem Read_calls (v : Value) (body r : List UInt8) (hl : body.length ≤ 65536) (hr : r.length ≤ 1099511627776) (w : World) (hv : RdB w.heap.size w v (frame body ++ r)) :
    Calls Tryz.prog 80 #[v] w fun e w' => ∃ v', e = .returned (.tuple #[v', .int .i64 (body.length + 12 : Nat), .int .i64 0]) ∧ OwnB w' w.heap.size v' body ∧ Below w.heap.size w w' := by
  obtain ⟨a, cap, rfl, hcap, hcap2⟩ := hv.shape
  have hlen : (frame body ++ r).length = body.length + r.length + 12 := by rw [List.length_append, frame_length]; omega
  obtain ⟨b, off, rfl, _, _, _⟩ := Rd.cell hv (by omega)
  rw [hlen] at hcap
  have hv8 : RdB w.heap.size w (.slice (some ⟨b, off + 8, none⟩) (8 + body.length - 8) (cap - 8)) body := by
    have := RdB.part rfl hv 8 (8 + body.length) (cap - 8) (by omega) (by omega) (by omega) (by omega)
    rwa [show ((frame body ++ r).drop 8).take (8 + body.length - 8) = body from by
      simp only [frame, List.append_assoc]
      rw [← List.append_assoc, List.drop_left' (by rfl), List.take_left' (by omega)]] at this
  rw [hlen] at hv ⊢
  clear hlen
  go_enter Tryz.func80, Tryz.ntmps80
  go_wp2_with fail
  refine (look_calls _ body r hl hr w hv).mono ?_
  rintro e w1 ⟨rfl, hb⟩
  have hz := hb.size
  have hv8' := hv8.below hb
  have hown0 : OwnB (w1.alloc (.cells #[] 5)) w.heap.size (.slice (some ⟨w1.heap.size, 0, none⟩) 0 0) [] := ⟨rfl, .inr ⟨w1.heap.size, 0, #[], rfl, hz, heap_alloc_new _ _, Nat.le_refl _, Nat.zero_le _, rfl, rfl⟩⟩
  go_wp2_with (at_builtin; refine wpList_app _ rfl _ _ 30 rfl w.heap.size _ [] rfl hown0 _ body rfl (RdB.src (hv8'.below ((Below.refl _ _).alloc hz _))) (by simp; omega) (by simp; omega) ?_; intro v4 w4 ho4 hg4)
  go_ret3
  refine ⟨v4, ?_, ho4, (hb.alloc hz _).grown hg4 (by simp; omega) (fun j hj => (OwnB.lt hown0 j hj).1)⟩
  rw [show ((body.length + 12 : Nat) : Int) = 8 + (body.length : Int) + 4 by omega]
  rfl

set_option maxRecDepth 10000 in
set_option maxHeartbeats 400000 in
theorem Read_short (v : Value) (body p q : List UInt8) (hl : body.length ≤ 65536) (hpq : frame body = p ++ q) (hq : q ≠ []) (w : World) (hv : RdB w.heap.size w v p) :
    Calls Tryz.prog 80 #[v] w fun e w' => e = .returned (.tuple #[.slice none 0 0, .int .i64 (p.length : Nat), .int .i64 4]) ∧ Below w.heap.size w w' := by
  go_enter Tryz.func80, Tryz.ntmps80
  go_wp2_with (go_at_call 89; refine (look_short _ body p q hl hpq hq w hv).mono ?_; rintro e w1 ⟨rfl, hb⟩)
  go_ret3
  exact ⟨rfl, hb⟩
end Go.Proofs.YtipbfmalacnmkaaGreat
