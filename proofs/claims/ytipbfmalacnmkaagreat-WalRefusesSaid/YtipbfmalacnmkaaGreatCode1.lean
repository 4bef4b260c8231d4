/- What the functions that put numbers and texts into bytes return: appendUint, PutUint, zig, PutInt, appendText, PutText. The numbers are at most 2^60 (a vote: from -1 to 6). -/
import Derived.Test.YtipbfmalacnmkaaGreatBase
import Derived.Test.YtipbfmalacnmkaaGreatSpec
namespace Go.Proofs.YtipbfmalacnmkaaGreat
open Go.RowKit

theorem Src.lit1 (w : World) (x : Int) (u : UInt8) (h : (u.toNat : Int) = x) : Src Tryz.prog 1 30 (.slice (some ⟨w.heap.size, 0, none⟩) 1 1) [u].length (bvs [u]) (w.alloc (.cells #[.int .u8 x] 5)) := by
  subst h
  refine Src.ofSlice _ Tryz.underlying30 _ 1 1 _ rfl ?_ (bvs_one _)
  intro j v hv
  cases j with
  | zero => simp [bvs, bv] at hv; subst hv; simp [Addr.add]
  | succ j => simp [bvs] at hv
theorem hi7_bits (k : Nat) : ((hi7 k).toNat : Int) = bits BinOp.or IntKind.u8 ((k : Int) % 256) 128 := by
  rw [hi7_toNat, show ((k : Int) % 256) = ((k % 256 : Nat) : Int) by omega, show (128 : Int) = ((128 : Nat) : Int) from rfl, u8_or_nat _ _ (by omega) (by omega)]
  have h : ∀ x : Fin 256, x.val ||| 128 = x.val % 128 + 128 := by decide +kernel
  have := h ⟨k % 256, by omega⟩
  simp only at this
  rw [this]
  omega

set_option maxRecDepth 10000 in
set_option maxHeartbeats 400000 in
theorem appendUint_calls (base : Nat) (v : Value) (l : List UInt8) (n : Nat) (hn : n ≤ 1152921504606846976) (w : World) (hown : OwnB w base v l) (hb : base ≤ w.heap.size) (hl : l.length ≤ 1099511627776) :
    Calls Tryz.prog 75 #[v, .int .u64 n] w fun e w' => ∃ v', e = .returned v' ∧ OwnB w' base v' (l ++ uint n) ∧ Below base w w' := by
  have hlen := uint_le n hn
  go_enter Tryz.func75, Tryz.ntmps75
  go_wp2
  go_loopw [0, 1] (fun b m wr => ∃ (l' : List UInt8) (k : Nat), m = .int .u64 k ∧ k ≤ n ∧ Hid (uint n = l' ++ uint k) ∧ OwnB wr base b (l ++ l') ∧ Below base w wr ∧ l'.length ≤ 9 ∧ base ≤ wr.heap.size) (fun b m wr => (intOf m).toNat)
  case atStart => exact ⟨[], n, rfl, Nat.le_refl _, Lib.hid rfl, by simpa using hown, Below.refl _ _, by simp, hb⟩
  case round =>
    obtain ⟨l', k, rfl, hk, hu, ho, hbl, hl', hbs⟩ := hrel
    by_cases hk2 : 127 < k
    · have hl9 : l'.length + 1 ≤ 9 := by
        have h1 := congrArg List.length hu.out
        rw [List.length_append] at h1
        have := uint_pos k
        omega
      go_wp2_with (at_builtin; refine wpList_app _ rfl _ _ 30 rfl base _ _ rfl (OwnB.alloc ho _) _ [hi7 k] rfl (Src.lit1 _ _ _ (hi7_bits k)) (by simp; omega) (by simp; omega) ?_; intro v1 w1 ho1 hg1)
      go_roundw
      case rel =>
        refine ⟨l' ++ [hi7 k], k / 128, by simp, by omega, Lib.hid (by rw [hu.out, uint_big hk2]; simp), by rw [← List.append_assoc]; exact ho1, ?_, by simp; omega, ?_⟩
        · exact (hbl.alloc hbs _).grown hg1 (by simp; omega) (fun j hj => (OwnB.lt ho j hj).1)
        · have := hg1.size; simp at this; omega
      case measure => simp [intOf]; omega
    · go_wp2_with (at_builtin; refine wpList_app _ rfl _ _ 30 rfl base _ _ rfl (OwnB.alloc ho _) _ [lo8 k] rfl (Src.lit1 _ _ _ (by rw [lo8_toNat]; omega)) (by simp; omega) (by simp; omega) ?_; intro v1 w1 ho1 hg1)
      go_ret
      refine ⟨_, rfl, ?_, (hbl.alloc hbs _).grown hg1 (by simp; omega) (fun j hj => (OwnB.lt ho j hj).1)⟩
      rw [hu.out, uint_small hk2, ← List.append_assoc]
      exact ho1

set_option maxHeartbeats 400000 in
theorem PutUint_calls (n : Nat) (hn : n ≤ 1152921504606846976) (w : World) :
    Calls Tryz.prog 53 #[.int .u64 n] w fun e w' => ∃ v', e = .returned v' ∧ OwnB w' w.heap.size v' (uint n) ∧ Below w.heap.size w w' := by
  go_enter Tryz.func53, Tryz.ntmps53
  go_wp2_with (go_at_call 75; refine (appendUint_calls w.heap.size _ [] n hn _ (OwnB.nil _ _) (Nat.le_refl _) (by simp)).mono ?_; rintro e w' ⟨v1, rfl, ho, hb⟩)
  go_ret
  exact ⟨_, rfl, by simpa using ho, hb⟩

theorem zig_calls (n : Int) (h1 : -1 ≤ n) (h2 : n ≤ 6) (w : World) : Calls Tryz.prog 76 #[.int .i64 n] w fun e w' => e = .returned (.int .u64 (zig n : Nat)) ∧ w = w' := by
  have : n = -1 ∨ n = 0 ∨ n = 1 ∨ n = 2 ∨ n = 3 ∨ n = 4 ∨ n = 5 ∨ n = 6 := by omega
  rcases this with rfl | rfl | rfl | rfl | rfl | rfl | rfl | rfl <;>
  · go_enter Tryz.func76, Tryz.ntmps76
    go_wp2
    go_ret
    exact ⟨rfl, rfl⟩
set_option maxHeartbeats 400000 in
theorem PutInt_calls (n : Int) (h1 : -1 ≤ n) (h2 : n ≤ 6) (w : World) :
    Calls Tryz.prog 54 #[.int .i64 n] w fun e w' => ∃ v', e = .returned v' ∧ OwnB w' w.heap.size v' (uint (zig n)) ∧ Below w.heap.size w w' := by
  have hz : zig n ≤ 1152921504606846976 := by unfold zig; split <;> omega
  go_enter Tryz.func54, Tryz.ntmps54
  go_wp2_with (first | (go_at_call 76; refine (zig_calls n h1 h2 _).mono ?_; rintro e w' ⟨rfl, rfl⟩) | (go_at_call 75; refine (appendUint_calls w.heap.size _ [] (zig n) hz _ (OwnB.nil _ _) (Nat.le_refl _) (by simp)).mono ?_; rintro e w' ⟨v1, rfl, ho, hb⟩))
  go_ret
  exact ⟨_, rfl, by simpa using ho, hb⟩
set_option maxHeartbeats 400000 in
theorem appendText_calls (base : Nat) (v : Value) (l : List UInt8) (s : ByteArray) (hs : s.size ≤ 1099511627776) (w : World) (hown : OwnB w base v l) (hb : base ≤ w.heap.size) (hl : l.length ≤ 1099511627776) :
    Calls Tryz.prog 77 #[v, .string s] w fun e w' => ∃ v', e = .returned v' ∧ OwnB w' base v' (l ++ (uint s.size ++ s.data.toList)) ∧ Below base w w' := by
  have hu := uint_le s.size (by omega)
  have hss : s.data.toList.length = s.size := by rw [Array.length_toList]; rfl
  have HS := Lib.hid hss
  clear hss
  go_enter Tryz.func77, Tryz.ntmps77
  go_wp2_with (first | (go_at_call 75; refine (appendUint_calls base _ l s.size (by omega) _ hown hb hl).mono ?_; rintro e w' ⟨v1, rfl, ho, hbl⟩) | (at_builtin; refine wpList_app _ rfl _ _ 9 rfl base _ _ rfl ho _ s.data.toList rfl (Src.str _ s) (by rw [HS.out, List.length_append]; omega) (by have := hbl.size; omega) ?_; intro v2 w2 ho2 hg2))
  go_ret
  exact ⟨_, rfl, by rw [← List.append_assoc]; exact ho2, hbl.grown hg2 (by have := hbl.size; omega) (fun j hj => (OwnB.lt ho j hj).1)⟩
set_option maxHeartbeats 400000 in
theorem PutText_calls (s : ByteArray) (hs : s.size ≤ 1099511627776) (w : World) :
    Calls Tryz.prog 55 #[.string s] w fun e w' => ∃ v', e = .returned v' ∧ OwnB w' w.heap.size v' (uint s.size ++ s.data.toList) ∧ Below w.heap.size w w' := by
  go_enter Tryz.func55, Tryz.ntmps55
  go_wp2_with (go_at_call 77; refine (appendText_calls w.heap.size _ [] s hs _ (OwnB.nil _ _) (Nat.le_refl _) (by simp)).mono ?_; rintro e w' ⟨v1, rfl, ho, hb⟩)
  go_ret
  exact ⟨_, rfl, by simpa using ho, hb⟩
end Go.Proofs.YtipbfmalacnmkaaGreat
