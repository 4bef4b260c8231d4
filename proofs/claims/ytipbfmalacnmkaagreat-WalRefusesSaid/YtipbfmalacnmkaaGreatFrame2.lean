/- What the frame's get, Frame, look and Read return. -/
import Derived.Test.YtipbfmalacnmkaaGreatFrame1

import Derived.Deep.QuietTactic
import Derived.BigQuiet
import Derived.Deep.RegionWith
import Derived.Deep.DeepCutAuto
namespace Go.Proofs.YtipbfmalacnmkaaGreat
open Go.RowKit
theorem get32_bits (n : Nat) (hn : n < 4294967296) : bits BinOp.or IntKind.u32 (bits BinOp.or IntKind.u32 (bits BinOp.or IntKind.u32 ((n : Int) % 256) ((n : Int) / 256 % 256 * 256)) ((n : Int) / 65536 % 256 * 65536)) ((n : Int) / 16777216 % 256 * 16777216) = (n : Int) := by
  have join : ∀ (i a b : Nat), a < 2 ^ i → b % 2 ^ i = 0 → a + b < 4294967296 → bits BinOp.or IntKind.u32 (a : Int) (b : Int) = ((a + b : Nat) : Int) := fun i a b h1 h2 h3 => by
    rw [u32_or_nat _ _ (by omega) (by omega), Nat.or_comm, nat_join i b a h2 h1, Nat.add_comm]
  have e1 := join 8 (n % 256) (n / 256 % 256 * 256) (by omega) (by omega) (by omega)
  have e2 := join 16 (n % 256 + n / 256 % 256 * 256) (n / 65536 % 256 * 65536) (by omega) (by omega) (by omega)
  have e3 := join 24 (n % 256 + n / 256 % 256 * 256 + n / 65536 % 256 * 65536) (n / 16777216 % 256 * 16777216) (by omega) (by omega) (by omega)
  simp only [Int.natCast_add, Int.natCast_mul, Int.natCast_emod, Int.natCast_ediv, Int.cast_ofNat_Int] at e1 e2 e3
  rw [e1, e2, e3]
  omega
set_option maxRecDepth 10000 in
set_option maxHeartbeats 400000 in
theorem get_calls (B : Nat) (v : Value) (n : Nat) (hn : n < 4294967296) (r : List UInt8) (w : World) (hv : RdB B w v (put32 n ++ r)) (hl : r.length ≤ 4398046511104) :
    Calls Tryz.prog 104 #[v] w fun e w' => e = .returned (.int .u32 n) ∧ ∃ nq, w' = w.drewN nq := by
  obtain ⟨a, cap, rfl, hcap, hcap2⟩ := hv.shape
  have hlen : (put32 n ++ r).length = r.length + 4 := by simp [put32]
  obtain ⟨b, off, rfl, _, _, hcell⟩ := Rd.cell hv (by omega)
  have h0 := hcell 0 (by omega)
  have h1 := hcell 1 (by omega)
  have h2 := hcell 2 (by omega)
  have h3 := hcell 3 (by omega)
  simp [put32, bvs, bv, lo8_toNat] at h0 h1 h2 h3
  clear hcell
  rw [hlen] at hcap ⊢
  clear hv hlen
  go_enter Tryz.func104, Tryz.ntmps104
  go_wp2
  go_quiet (fail)
  go_wp2
  rw [get32_bits n hn]
  go_ret
  exact ⟨rfl, nq, rfl⟩

set_option maxRecDepth 10000 in
set_option maxHeartbeats 400000 in
theorem Frame_calls (v : Value) (l : List UInt8) (hl : l.length ≤ 65536) (w : World) (hv : RdB w.heap.size w v l) :
    Calls Tryz.prog 52 #[v] w fun e w' => ∃ v', e = .returned (.tuple #[v', .int .i64 0]) ∧ OwnB w' w.heap.size v' (frame l) ∧ Below w.heap.size w w' := by
  obtain ⟨a, cap, rfl, hcap, hcap2⟩ := hv.shape
  have hs1 := sum32_lt (put32 l.length)
  have hs2 := sum32_lt l
  have hp : ∀ n, (put32 n).length = 4 := fun n => rfl
  go_enter Tryz.func52, Tryz.ntmps52
  go_wp2_with fail
  refine (put_calls w.heap.size _ [] l.length (by omega) w (OwnB.nil _ _) (Nat.le_refl _) (by simp)).mono ?_
  rintro e w1 ⟨v1, rfl, ho1, hb1⟩
  rw [List.nil_append] at ho1
  have hz1 := hb1.size
  go_wp2_with fail
  refine (Sum_calls _ _ w1 ho1.rd (by rw [hp]; omega)).mono ?_
  rintro e w2 ⟨rfl, hb2⟩
  have hz2 := hb2.size
  have ho2 := ho1.belowS hb2
  go_wp2_with fail
  refine (put_calls w.heap.size _ _ _ hs1 w2 ho2 (by omega) (by rw [hp]; omega)).mono ?_
  rintro e w3 ⟨v3, rfl, ho3, hb3⟩
  have hz3 := hb3.size
  have hb03 : Below w.heap.size w w3 := (hb1.trans (hb2.mono hz1)).trans hb3
  have hv3 := hv.below hb03
  go_wp2_with (at_builtin; refine wpList_app _ rfl _ _ 30 rfl w.heap.size _ _ rfl ho3 _ l rfl hv3.src (by simp only [List.length_append, hp]; omega) (by omega) ?_; intro v4 w4 ho4 hg4)
  have hz4 := hg4.size
  have hb04 : Below w.heap.size w w4 := hb03.grown hg4 (by omega) (fun j hj => (OwnB.lt ho3 j hj).1)
  refine (Sum_calls _ _ w4 ((hv.below hb04).mono (by omega)) (by omega)).mono ?_
  rintro e w5 ⟨rfl, hb5⟩
  have hz5 := hb5.size
  have ho5 := ho4.belowS hb5
  go_wp2_with fail
  refine (put_calls w.heap.size _ _ _ hs2 w5 ho5 (by omega) (by simp only [List.length_append, hp]; omega)).mono ?_
  rintro e w6 ⟨v6, rfl, ho6, hb6⟩
  go_wp2_with fail
  go_ret2
  exact ⟨v6, rfl, by unfold frame; simpa only [List.append_assoc] using ho6, (hb04.trans (hb5.mono (by omega))).trans hb6⟩

theorem below_undrew {w w2 : World} {k : Nat} (h : Below (w.drewN k).heap.size (w.drewN k) w2) : Below w.heap.size w w2 := ⟨h.os, h.tape, h.output, h.size, h.block⟩
set_option maxRecDepth 10000 in
set_option maxHeartbeats 2000000 in
theorem look_calls (v : Value) (body r : List UInt8) (hl : body.length ≤ 65536) (hr : r.length ≤ 1099511627776) (w : World) (hv : RdB w.heap.size w v (frame body ++ r)) :
    Calls Tryz.prog 89 #[v] w fun e w' => e = .returned (.tuple #[.int .i64 (body.length : Nat), .int .i64 0, .int .i64 0]) ∧ Below w.heap.size w w' := by
  obtain ⟨a, cap, rfl, hcap, hcap2⟩ := hv.shape
  have hlen : (frame body ++ r).length = body.length + r.length + 12 := by rw [List.length_append, frame_length]; omega
  obtain ⟨b, off, rfl, _, _, _⟩ := Rd.cell hv (by omega)
  rw [hlen] at hcap hv ⊢
  have hf : frame body ++ r = put32 body.length ++ (put32 (sum32 (put32 body.length)) ++ (body ++ (put32 (sum32 body) ++ r))) := by simp [frame]
  have hp : ∀ n, (put32 n).length = 4 := fun n => rfl
  go_enter Tryz.func89, Tryz.ntmps89
  go_wp2_with fail
  refine (get_calls w.heap.size _ body.length (by omega) (put32 (sum32 (put32 body.length)) ++ (body ++ (put32 (sum32 body) ++ r))) w (by rw [← hf]; exact hv) (by simp only [List.length_append, hp]; omega)).mono ?_
  rintro e w1 ⟨rfl, nq, rfl⟩
  have hsp := sum32_lt (put32 body.length)
  have hsb := sum32_lt body
  have hv4 : RdB w.heap.size w (.slice (some ⟨b, off + 4, none⟩) (body.length + r.length + 12 - 4) (cap - 4)) (put32 (sum32 (put32 body.length)) ++ (body ++ (put32 (sum32 body) ++ r))) := by
    have := RdB.part hlen hv 4 (body.length + r.length + 12) (cap - 4) (by omega) (by omega) (by omega) (by omega)
    rw [hf] at this
    rwa [List.take_of_length_le (by simp [hp]; omega)] at this
  have hv0 : RdB w.heap.size w (.slice (some ⟨b, off, none⟩) 4 cap) (put32 body.length) := by
    have := RdB.part hlen hv 0 4 cap (by omega) (by omega) (by omega) (by omega)
    rw [hf] at this
    simpa [hp] using this
  have hv5 : RdB w.heap.size w (.slice (some ⟨b, off + (8 + body.length), none⟩) (body.length + r.length + 12 - (8 + body.length)) (cap - (8 + body.length))) (put32 (sum32 body) ++ r) := by
    have := RdB.part hlen hv (8 + body.length) (body.length + r.length + 12) (cap - (8 + body.length)) (by omega) (by omega) (by omega) (by omega)
    rw [hf, List.take_of_length_le (by simp [hp]; omega)] at this
    rwa [show (put32 body.length ++ (put32 (sum32 (put32 body.length)) ++ (body ++ (put32 (sum32 body) ++ r)))).drop (8 + body.length) = put32 (sum32 body) ++ r from by
      rw [← List.append_assoc, ← List.append_assoc, List.drop_left' (by simp [hp]; omega)]] at this
  have hv8 : RdB w.heap.size w (.slice (some ⟨b, off + 8, none⟩) body.length (cap - 8)) body := by
    have := RdB.part hlen hv 8 (8 + body.length) (cap - 8) (by omega) (by omega) (by omega) (by omega)
    rw [hf, show 8 + body.length - 8 = body.length by omega] at this
    rwa [show ((put32 body.length ++ (put32 (sum32 (put32 body.length)) ++ (body ++ (put32 (sum32 body) ++ r)))).drop 8).take body.length = body from by
      rw [← List.append_assoc, List.drop_left' (by simp [hp]), List.take_left' rfl]] at this
  clear hlen hf hv
  go_upto_region 4 with fail
  go_cut [13] (fun s13 wc => s13 = .bool false ∧ Below w.heap.size w wc)
  case first =>
    go_region_with (first | (go_at_call 104; refine (get_calls w.heap.size _ _ hsp _ _ (by exact hv4) (by simp only [List.length_append, hp]; omega)).mono ?_; rintro e w1 ⟨rfl, nq1, rfl⟩) | (go_at_call 74; refine (Sum_calls _ _ _ (by exact hv0) (by simp [hp])).mono ?_; rintro e w2 ⟨rfl, hb2⟩))
    all_goals (go_wp2_with fail; go_meet; exact ⟨rfl, below_undrew hb2⟩)
  case rest =>
    obtain ⟨rfl, hb⟩ := hcut
    have hv5' := hv5.below hb
    have hv8' := (hv8.below hb).mono hb.size
    go_upto_region 12 with fail
    go_cut [44] (fun s44 wd => s44 = .bool false ∧ Below w.heap.size w wd)
    case first =>
      go_region_with (first | (go_at_call 104; refine (get_calls w.heap.size _ _ hsb _ _ (by exact hv5') (by omega)).mono ?_; rintro e w1 ⟨rfl, nq1, rfl⟩) | (go_at_call 74; refine (Sum_calls _ _ _ (by exact hv8') (by omega)).mono ?_; rintro e w2 ⟨rfl, hb2⟩))
      all_goals (go_wp2_with fail; go_meet; exact ⟨rfl, hb.trans ((below_undrew hb2).mono hb.size)⟩)
    case rest =>
      obtain ⟨rfl, hb⟩ := hcut
      go_wp2_with fail
      go_ret3
      exact ⟨rfl, hb⟩
end Go.Proofs.YtipbfmalacnmkaaGreat
