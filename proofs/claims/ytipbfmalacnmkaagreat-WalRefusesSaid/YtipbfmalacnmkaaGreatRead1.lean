/- What the reader's next and number return, where the bytes are those of a number. -/
import Derived.Test.YtipbfmalacnmkaaGreatFrame1
import Derived.Deep.QuietTactic
import Derived.BigQuiet
namespace Go.Proofs.YtipbfmalacnmkaaGreat
open Go.RowKit

theorem pow7 (j : Nat) : (2 : Nat) ^ (7 * j) = 128 ^ j := by rw [Nat.pow_mul]
theorem pow128_le (j : Nat) (hj : j ≤ 8) : 128 ^ j ≤ 72057594037927936 := by
  have := Nat.pow_le_pow_right (n := 128) (by decide) hj
  simpa using this
theorem num_step (s q j : Nat) (hj : j ≤ 8) (hs : s < 128 ^ j) (hq : q < 128) :
    bits BinOp.or IntKind.u64 (s : Int) (IntKind.u64.wrap ((q : Int) * 2 ^ (7 * j))) = ((s + q * 128 ^ j : Nat) : Int) := by
  have hp := pow128_le j hj
  have hm : q * 128 ^ j ≤ 127 * 128 ^ j := Nat.mul_le_mul_right _ (by omega)
  have e1 : ((q : Int) * 2 ^ (7 * j)) = ((q * 128 ^ j : Nat) : Int) := by
    rw [← pow7]; simp
  have e2 : IntKind.u64.wrap ((q * 128 ^ j : Nat) : Int) = ((q * 128 ^ j : Nat) : Int) := by
    rw [IntKind.wrap_u64]; omega
  rw [e1, e2, u64_or_nat _ _ (by omega) (by omega), Nat.or_comm, nat_join (7 * j) _ _ (by rw [pow7]; exact Nat.mul_mod_left _ _) (by rw [pow7]; exact hs), Nat.add_comm]
theorem and127 (q : Nat) (hq : q < 256) : IntKind.u64.wrap (bits BinOp.and IntKind.u8 (q : Int) 127) = ((q % 128 : Nat) : Int) := by
  rw [show (127 : Int) = ((127 : Nat) : Int) from rfl, u8_and_nat _ _ hq (by decide), nat_mask7, IntKind.wrap_u64]
  omega
/-- A reader (a struct of bytes and a place) in block g. -/
def Rdr (w : World) (g : Nat) (v : Value) (k : Nat) : Prop := w.heap[g]? = some (.cells #[v, .int .i64 (k : Int)] 162 (0, 0))
theorem Rdr.c0 {w : World} {g : Nat} {v : Value} {k : Nat} (h : Rdr w g v k) : w.cell? ⟨g, 0, none⟩ = some v := by rw [cell_of_row _ _ _ _ _ _ h]; rfl
theorem Rdr.c1 {w : World} {g : Nat} {v : Value} {k : Nat} (h : Rdr w g v k) : w.cell? ⟨g, 1, none⟩ = some (.int .i64 (k : Int)) := by rw [cell_of_row _ _ _ _ _ _ h]; rfl
theorem Rdr.f1 {w : World} {g : Nat} {v : Value} {k : Nat} (h : Rdr w g v k) : w.frozen? ⟨g, 1, none⟩ = false := frozen_of_row _ _ _ _ _ h
theorem Rdr.set {w : World} {g : Nat} {v : Value} {k : Nat} (h : Rdr w g v k) (k' : Nat) (x : Int) (hx : x = (k' : Int)) : Rdr (w.setCell ⟨g, 1, none⟩ (.int .i64 x)) g v k' := by
  subst hx
  unfold Rdr
  rw [heap_setCell_same _ _ _ _ _ _ h]
  rfl
theorem RdB.ne {B : Nat} {w : World} {b off cap n : Nat} {l : List UInt8} {g e : Nat} {cs : Array Value} {fz : Nat × Nat} (h : RdB B w (.slice (some ⟨b, off, none⟩) n cap) l) (hg : w.heap[g]? = some (.cells cs e fz)) (hl : 0 < l.length) (he : e ≠ 5 := by decide) : b ≠ g := by
  obtain ⟨a, cap', e1, _, _, _, e5⟩ := h
  cases e1
  rcases e5 with e5 | ⟨b', off', cur, fz', p1, _, ⟨t, hkin, p3⟩, _⟩
  · omega
  · cases p1
    rintro rfl
    rw [hg] at p3
    cases p3
    exact hkin.ne he (fun h => absurd h (by decide)) rfl
set_option maxRecDepth 10000 in
set_option maxHeartbeats 400000 in
theorem next_calls (g : Nat) (v : Value) (l : List UInt8) (k : Nat) (u : UInt8) (w : World) (hr : Rdr w g v k) (hv : RdB w.heap.size w v l) (hk : l[k]? = some u) (hl : l.length ≤ 1099511627776) :
    Calls Tryz.prog 119 #[.pointer (some ⟨g, 0, none⟩)] w fun e w' => e = .returned (.int .u8 (u.toNat : Int)) ∧ Rdr w' g v (k + 1) ∧ Ext [g] w w' ∧ w'.heap.size = w.heap.size := by
  obtain ⟨hkl, rfl⟩ := List.getElem?_eq_some_iff.1 hk
  obtain ⟨a, cap, rfl, hcap, hcap2⟩ := hv.shape
  obtain ⟨b, off, rfl, _, hb, hcell⟩ := Rd.cell hv (by omega)
  have hbg : b ≠ g := RdB.ne hv hr (by omega)
  have hc := hcell k (by omega)
  rw [bvs_get _ _ hkl] at hc
  have h0 := hr.c0
  have h1 := hr.c1
  have hf := hr.f1
  clear hcell hk
  have hne : ¬ (k : Int) = (l.length : Int) := by omega
  have hne2 : ((k : Int) == (l.length : Int)) = false := by simpa using hne
  go_enter Tryz.func119, Tryz.ntmps119
  go_wp2
  go_quiet (fail)
  go_wp2
  have q0 : ((w.drewN nq).setCell ⟨g, 1, none⟩ (.int .i64 ((k : Int) + 1))).cell? ⟨g, 0, none⟩ = some (.slice (some ⟨b, off, none⟩) l.length cap) := (hr.set (k + 1) _ (by omega)).c0
  have q1 : ((w.drewN nq).setCell ⟨g, 1, none⟩ (.int .i64 ((k : Int) + 1))).cell? ⟨g, 1, none⟩ = some (.int .i64 ((k : Int) + 1)) := (hr.set (k + 1) _ (by omega)).c1
  have q2 : ((w.drewN nq).setCell ⟨g, 1, none⟩ (.int .i64 ((k : Int) + 1))).cell? ⟨b, off + k, none⟩ = some (.int .u8 (l[k].toNat : Int)) := by
    rw [World.cell?_of_block (Below.heap_setCell (w.drewN nq) _ _ b hbg)]; exact hc
  generalize hW : (w.drewN nq).setCell ⟨g, 1, none⟩ (.int .i64 ((k : Int) + 1)) = W at q0 q1 q2 ⊢
  have HW := Lib.hid hW
  clear hW
  go_quiet (fail)
  go_wp2
  go_ret
  refine ⟨rfl, ?_⟩
  rw [← HW.out]
  exact ⟨hr.set (k + 1) _ (by omega), Ext.drewN (Ext.setCell (p := ⟨g, 1, none⟩) ((Ext.refl [g] w).drewN _) (.inl (List.mem_singleton.2 rfl)) _) _, by show (Array.modify w.heap _ _).size = _; rw [Array.size_modify]⟩

set_option maxRecDepth 10000 in
set_option maxHeartbeats 1000000 in
theorem number_calls (g : Nat) (v : Value) (l rest : List UInt8) (k n : Nat) (hn : n ≤ 1152921504606846976) (w : World) (hr : Rdr w g v k) (hv : RdB w.heap.size w v l) (hk : l.drop k = uint n ++ rest) (hl : l.length ≤ 1099511627776) :
    Calls Tryz.prog 106 #[.pointer (some ⟨g, 0, none⟩)] w fun e w' => e = .returned (.int .u64 (n : Nat)) ∧ Rdr w' g v (k + (uint n).length) ∧ Ext [g] w w' ∧ w'.heap.size = w.heap.size := by
  go_enter Tryz.func106, Tryz.ntmps106
  go_wp2
  go_loopw [3, 4, 5] (fun acc i _ wr => ∃ (j m s : Nat), i = .int .i64 j ∧ acc = .int .u64 s ∧ j ≤ 8 ∧ Hid (l.drop (k + j) = uint m ++ rest) ∧ m < 128 ^ (9 - j) ∧ s < 128 ^ j ∧ (j = 0 ∨ 0 < m) ∧ Hid (n = s + m * 128 ^ j) ∧ Hid ((uint n).length = j + (uint m).length) ∧ Rdr wr g v (k + j) ∧ Ext [g] w wr ∧ wr.heap.size = w.heap.size)
    (fun _ i _ wr => (9 - intOf i).toNat)
  case atStart => exact ⟨0, n, 0, rfl, rfl, by omega, Lib.hid hk, by omega, by omega, .inl rfl, Lib.hid (by simp), Lib.hid (by simp), hr, Ext.refl _ _, rfl⟩
  case round =>
    obtain ⟨j, m, s, rfl, rfl, hj, hd, hm, hs, hj0, hns, hlen, hr1, hx, hsz⟩ := hrel
    have hvr : RdB wr.heap.size wr v l := by
      rw [hsz]
      exact Rd.extM hv hx (fun q hq cur fz => by
        simp at hq; subst hq; unfold Rdr at hr; rw [hr]; intro e; cases e)
    by_cases hm2 : 127 < m
    · have hh : l[k + j]? = some (hi7 m) := by
        have := congrArg (fun x => x[0]?) hd.out
        simpa [uint_big hm2] using this
      go_wp2_with (go_at_call 119; refine (next_calls g v l (k + j) (hi7 m) _ hr1 hvr hh hl).mono ?_; rintro e w1 ⟨rfl, hr2, hx2, hsz2⟩; rw [hi7_toNat])
      have hj8 : j < 8 := by
        have : j ≠ 8 := by rintro rfl; simp at hm; omega
        omega
      have hq : m / 128 < 128 ^ (9 - (j + 1)) := by
        rw [show 9 - j = (9 - (j + 1)) + 1 by omega, Nat.pow_succ] at hm
        exact Nat.div_lt_of_lt_mul (by rw [Nat.mul_comm]; exact hm)
      have hpow : 128 ^ (j + 1) = 128 * 128 ^ j := by rw [Nat.pow_succ, Nat.mul_comm]
      have hstep : s + (m % 128) * 128 ^ j < 128 ^ (j + 1) := by
        have : (m % 128) * 128 ^ j ≤ 127 * 128 ^ j := Nat.mul_le_mul_right _ (by omega)
        omega
      go_roundw
      case rel =>
        refine ⟨j + 1, m / 128, s + (m % 128) * 128 ^ j, by go_num, ?_, by omega, ?_, hq, hstep, .inr (by omega), ?_, ?_, hr2, hx.trans (hx2.mono (fun _ _ h => h)), hsz2.trans hsz⟩
        · rw [show ((m : Int) % 128 + 128) = ((m % 128 + 128 : Nat) : Int) by omega, and127 _ (by omega), num_step _ _ _ hj hs (by omega), show (m % 128 + 128) % 128 = m % 128 by omega]
        · refine Lib.hid ?_
          have h1 := congrArg List.tail hd.out
          rw [uint_big hm2] at h1
          simpa [Nat.add_assoc] using h1
        · refine Lib.hid ?_
          rw [hns.out, hpow, Nat.add_assoc, ← Nat.mul_assoc, ← Nat.add_mul]
          congr 2
          omega
        · refine Lib.hid ?_
          rw [hlen.out, uint_big hm2, List.length_cons]
          omega
      case measure => simp [intOf]; omega
    · have hh : l[k + j]? = some (lo8 m) := by
        have := congrArg (fun x => x[0]?) hd.out
        simpa [uint_small hm2] using this
      have hm3 : m % 256 = m := by omega
      have hfin : n = s + m * 128 ^ j ∧ (uint n).length = j + 1 := ⟨hns.out, by rw [hlen.out, uint_small hm2]; rfl⟩
      have HF := Lib.hid hfin
      clear hfin
      rcases Nat.eq_zero_or_pos m with hm0 | hm0
      · obtain rfl : m = 0 := hm0
        obtain rfl : j = 0 := by omega
        obtain rfl : s = 0 := by simpa using hs
        have hb0 : bits BinOp.or IntKind.u64 0 (IntKind.u64.wrap (IntKind.u64.wrap (bits BinOp.and IntKind.u8 0 127))) = 0 := by decide
        go_wp2_with (go_at_call 119; refine (next_calls g v l (k + 0) (lo8 0) _ hr1 hvr hh hl).mono ?_; rintro e w1 ⟨rfl, hr2, hx2, hsz2⟩; rw [lo8_toNat, hm3])
        go_ret
        refine ⟨?_, by rw [HF.out.2]; exact hr2, hx.trans hx2, hsz2.trans hsz⟩
        rw [HF.out.1]
        rfl
      · have hb1 : bits BinOp.or IntKind.u64 (s : Int) (IntKind.u64.wrap (IntKind.u64.wrap (bits BinOp.and IntKind.u8 (m : Int) 127) * 2 ^ (7 * j))) = ((s + m * 128 ^ j : Nat) : Int) := by
          rw [and127 _ (by omega), num_step _ _ _ hj hs (by omega), show m % 128 = m by omega]
        have HB := Lib.hid hb1
        clear hb1
        go_wp2_with (go_at_call 119; refine (next_calls g v l (k + j) (lo8 m) _ hr1 hvr hh hl).mono ?_; rintro e w1 ⟨rfl, hr2, hx2, hsz2⟩; rw [lo8_toNat, hm3])
        rw [HB.out]
        go_ret
        refine ⟨?_, by rw [HF.out.2]; exact hr2, hx.trans hx2, hsz2.trans hsz⟩
        rw [HF.out.1]
        rfl
end Go.Proofs.YtipbfmalacnmkaaGreat
