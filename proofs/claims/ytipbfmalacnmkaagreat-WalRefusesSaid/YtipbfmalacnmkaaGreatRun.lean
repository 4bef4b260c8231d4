/- What wal.run returns: a record as frames. -/
import Derived.Test.YtipbfmalacnmkaaGreatFrame3
namespace Go.Proofs.YtipbfmalacnmkaaGreat
open Go.RowKit
theorem run_len (rec : List UInt8) : ∀ n, rec.length ≤ n → (run rec).length ≤ 2 * rec.length + 13 := by
  intro n
  induction n using Nat.strongRecOn generalizing rec with
  | _ n ih =>
    intro h
    by_cases hb : 60000 < rec.length
    · rw [run_big hb, List.length_append, frame_length]
      have := ih (rec.drop 60000).length (by simp; omega) (rec.drop 60000) (Nat.le_refl _)
      simp only [List.length_cons, List.length_take, List.length_drop] at this ⊢
      omega
    · rw [run_small hb, frame_length]; simp; omega
set_option maxRecDepth 10000 in
set_option maxHeartbeats 1000000 in
theorem run_calls (v : Value) (rec : List UInt8) (hl : rec.length ≤ 68719476736) (w : World) (hv : RdB w.heap.size w v rec) :
    Calls Tryz.prog 29 #[v] w fun e w' => ∃ v', e = .returned v' ∧ OwnB w' w.heap.size v' (run rec) ∧ Below w.heap.size w w' := by
  go_enter Tryz.func29, Tryz.ntmps29
  go_wp2_with fail
  go_loopw [0, 3, 4, 5, 6, 7] (fun v0 out _ _ _ _ wr => ∃ (o r : List UInt8), Hid (run rec = o ++ run r) ∧ r.length ≤ rec.length ∧ o.length ≤ 2 * (rec.length - r.length) ∧ RdB w.heap.size wr v0 r ∧ OwnB wr w.heap.size out o ∧ Below w.heap.size w wr) (fun v0 _ _ _ _ _ wr => match v0 with | .slice _ n _ => n | _ => 0)
  case atStart => exact ⟨[], rec, Lib.hid rfl, Nat.le_refl _, by simp, hv, OwnB.nil _ _, Below.refl _ _⟩
  case round =>
    obtain ⟨o, r, hr, hrl, hol, hv0, ho, hB⟩ := hrel
    obtain ⟨a, cap, rfl, hcap, hcap2⟩ := hv0.shape
    have hz := hB.size
    have own0 : ∀ u : UInt8, OwnB (wr.alloc (.cells #[.int .u8 (u.toNat : Int)] 5)) wr.heap.size (.slice (some ⟨wr.heap.size, 0, none⟩) 1 1) [u] := fun u => ⟨rfl, .inr ⟨wr.heap.size, 1, _, rfl, Nat.le_refl _, heap_alloc_new _ _, Nat.le_refl _, by decide, rfl, rfl⟩⟩
    by_cases hb : 60000 < r.length
    · have own1 : OwnB (wr.alloc (.cells #[.int .u8 0] 5)) wr.heap.size (.slice (some ⟨wr.heap.size, 0, none⟩) 1 1) [0] := own0 0
      obtain ⟨a1, c1, hs1, hr1⟩ := RdB.slice_h rfl hv0 60000 (by omega)
      obtain ⟨a2, c2, hs2, hr2⟩ := RdB.slice_l rfl hv0 60000 (by omega)
      have hs1' := fun W => hs1 60000 rfl W
      have hs2' := fun W => hs2 60000 rfl W
      have hmin : min (60000 : Int) (r.length : Int) = 60000 := by omega
      have hne : ((60000 : Int) == (r.length : Int)) = false := by rw [beq_eq_false_iff_ne]; omega
      clear hs1 hs2 own0
      have HR : Hid (run rec = o ++ frame (0 :: r.take 60000) ++ run (r.drop 60000)) := Lib.hid (by rw [hr.out, run_big hb, List.append_assoc])
      go_wp2_with (at_builtin; refine wpList_app _ rfl _ _ 30 rfl wr.heap.size _ [0] rfl own1 _ (r.take 60000) rfl (RdB.src (hr1.below ((Below.refl _ _).alloc hz _))) (by simp; omega) (by simp) ?_; intro v1 w1 ho1 hg1)
      have z1 := hg1.size
      rw [World.size_alloc] at z1
      have B1 : Below w.heap.size w w1 := (hB.alloc hz _).grown hg1 (by simp; omega) (fun j hj => by have := (OwnB.lt own1 j hj).1; omega)
      have B1' : Below wr.heap.size wr w1 := ((Below.refl _ _).alloc (Nat.le_refl _) _).grown hg1 (by simp) (fun j hj => (OwnB.lt own1 j hj).1)
      refine (Frame_calls v1 ([0] ++ r.take 60000) (by simp; omega) w1 ho1.rd).mono ?_
      rintro e w2 ⟨v2, rfl, ho2, hb2⟩
      have z2 := hb2.size
      have ho' : OwnB w2 w.heap.size u3 o := (ho.belowS B1').belowS hb2
      have B2 : Below w.heap.size w w2 := B1.trans (hb2.mono (by omega))
      go_wp2_with (at_builtin; refine wpList_app _ rfl _ _ 30 rfl w.heap.size _ _ rfl ho' _ _ rfl (RdB.src ho2.rd) (by rw [frame_length]; simp; omega) (by omega) ?_; intro v3 w3 ho3 hg3)
      have B3 : Below w.heap.size w w3 := B2.grown hg3 (by omega) (fun j hj => (OwnB.lt ho' j hj).1)
      go_roundw
      case rel =>
        refine ⟨_, r.drop 60000, HR, by simp; omega, ?_, ?_, ho3, B3⟩
        · rw [List.length_append, frame_length, List.length_cons, List.length_take, List.length_drop]; omega
        · have hbb : Below w.heap.size wr w3 := ⟨by rw [B3.os, hB.os], by rw [B3.tape, hB.tape], by rw [B3.output, hB.output], by have := hg3.size; omega, fun k hk => (B3.block k hk).trans (hB.block k hk).symm⟩
          exact hr2.below hbb
      case measure => simp; omega
    · have own1 : OwnB (wr.alloc (.cells #[.int .u8 1] 5)) wr.heap.size (.slice (some ⟨wr.heap.size, 0, none⟩) 1 1) [1] := own0 1
      obtain ⟨a1, c1, hs1, hr1⟩ := RdB.slice_h rfl hv0 r.length (by omega)
      obtain ⟨a2, c2, hs2, hr2⟩ := RdB.slice_l rfl hv0 r.length (by omega)
      have hs1' := fun W => hs1 (r.length : Int) rfl W
      have hs2' := fun W => hs2 (r.length : Int) rfl W
      rw [List.take_length] at hr1
      have hmin : (if (r.length : Int) < 60000 then (r.length : Int) else 60000) = (r.length : Int) := by split <;> omega
      have hb9 : r.length ≤ 60000 := by omega
      clear hs1 hs2 own0
      have HR : Hid (run rec = o ++ frame (1 :: r)) := Lib.hid (by rw [hr.out, run_small hb])
      go_wp2_with (at_builtin; refine wpList_app _ rfl _ _ 30 rfl wr.heap.size _ [1] rfl own1 _ r rfl (RdB.src (hr1.below ((Below.refl _ _).alloc hz _))) (by simp; omega) (by simp) ?_; intro v1 w1 ho1 hg1)
      have z1 := hg1.size
      rw [World.size_alloc] at z1
      have B1 : Below w.heap.size w w1 := (hB.alloc hz _).grown hg1 (by simp; omega) (fun j hj => by have := (OwnB.lt own1 j hj).1; omega)
      have B1' : Below wr.heap.size wr w1 := ((Below.refl _ _).alloc (Nat.le_refl _) _).grown hg1 (by simp) (fun j hj => (OwnB.lt own1 j hj).1)
      refine (Frame_calls v1 ([1] ++ r) (by simp; omega) w1 ho1.rd).mono ?_
      rintro e w2 ⟨v2, rfl, ho2, hb2⟩
      have z2 := hb2.size
      have ho' : OwnB w2 w.heap.size u3 o := (ho.belowS B1').belowS hb2
      have B2 : Below w.heap.size w w2 := B1.trans (hb2.mono (by omega))
      go_wp2_with (at_builtin; refine wpList_app _ rfl _ _ 30 rfl w.heap.size _ _ rfl ho' _ _ rfl (RdB.src ho2.rd) (by rw [frame_length]; simp; omega) (by omega) ?_; intro v3 w3 ho3 hg3)
      have B3 : Below w.heap.size w w3 := B2.grown hg3 (by omega) (fun j hj => (OwnB.lt ho' j hj).1)
      go_ret
      exact ⟨v3, rfl, by rw [HR.out]; exact ho3, B3⟩
end Go.Proofs.YtipbfmalacnmkaaGreat
