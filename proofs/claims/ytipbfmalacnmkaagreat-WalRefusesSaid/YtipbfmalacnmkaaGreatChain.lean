/- wal.chain: one thing behind the other, till one fails; wal.clear. -/
import Derived.Test.YtipbfmalacnmkaaGreatDisk5
namespace Go.Proofs.YtipbfmalacnmkaaGreat
open Go.RowKit Go.Shelf

def ChainPost (k : Nat) (At : Nat → World → Prop) (r : Nat → Int) (e : Ending) (w' : World) : Prop :=
  (e = .returned (.int .i64 0) ∧ At k w' ∧ ∀ j, j < k → r j = 0) ∨ ∃ i, i < k ∧ e = .returned (.int .i64 (r i)) ∧ r i ≠ 0 ∧ At (i + 1) w' ∧ ∀ j, j < i → r j = 0
set_option maxRecDepth 10000 in
set_option maxHeartbeats 1000000 in
theorem chain_calls (bb k : Nat) (fn : Nat → Nat) (cp : Nat → Array Value) (At : Nat → World → Prop) (r : Nat → Int) (hk : k ≤ 100) (hen : ∀ i, i < k → ∀ args w, (callFunc (fn i) args).run Tryz.prog w = .ok (.enter (fn i) args) w)
    (hcell : ∀ i j W, At j W → i < k → W.cell? ⟨bb, i, none⟩ = some (.func (.func (fn i)) #[] (cp i)))
    (hstep : ∀ i W, i < k → (∀ j, j < i → r j = 0) → At i W → Calls Tryz.prog (fn i) (cp i) W fun e w' => e = .returned (.int .i64 (r i)) ∧ At (i + 1) w') (w : World) (h0 : At 0 w) :
    Calls Tryz.prog 56 #[.slice (some ⟨bb, 0, none⟩) k k] w fun e w' => ChainPost k At r e w' := by
  go_enter Tryz.func56, Tryz.ntmps56
  go_wp2_with fail
  go_loopw [8] (fun x wr => ∃ i, i ≤ k ∧ x = .int .i64 i ∧ At i wr ∧ ∀ j, j < i → r j = 0) (fun x wr => (k - intOf x).toNat)
  case atStart => exact ⟨0, by omega, rfl, h0, by omega⟩
  case round =>
    obtain ⟨i, hi, rfl, hA, hz⟩ := hrel
    by_cases hik : i < k
    · have hc := hcell i i wr hA hik
      have he := hen i hik
      have hst := hstep i wr hik hz hA
      have HST := Lib.hid hst
      have HZ := Lib.hid hz
      clear hst hz hstep hcell hen
      generalize fn i = n at hc he HST
      generalize cp i = c at hc HST
      go_wp2_with fail
      refine HST.out.mono ?_
      rintro e w2 ⟨rfl, hA2⟩
      by_cases hr : r i = 0
      · rw [hr]
        clear hA HST
        have HR := Lib.hid hr
        clear hr
        have hw : IntKind.i64.wrap ((i : Int) + 1) = ((i + 1 : Nat) : Int) := by unfold IntKind.wrap; simp [IntKind.signed, IntKind.bits]; omega
        go_wp2_with fail
        go_roundw
        case rel =>
          refine ⟨i + 1, by omega, rfl, hA2, fun j hj => ?_⟩
          by_cases hji : j = i
          · rw [hji]; exact HR.out
          · exact HZ.out j (by omega)
        case measure => simp only [intOf]; omega
      · have hne : (r i == 0) = false := by simpa using hr
        have HR := Lib.hid hr
        clear hA HST hr
        go_wp2_with fail
        go_ret
        exact .inr ⟨i, hik, rfl, HR.out, hA2, HZ.out⟩
    · obtain rfl : i = k := by omega
      have HZ := Lib.hid hz
      clear hz hstep hcell hen
      go_wp2_with fail
      go_ret
      exact .inl ⟨rfl, hA, HZ.out⟩

def Dk.clear (k : Dk) : Int × Dk := if (k.remove .new).1 = 5 then (0, (k.remove .new).2) else k.remove .new
set_option maxRecDepth 10000 in
theorem clear_calls {w : World} {d m : Nat} {k : Dk} (hd : DiskAt w d m k) (hfu : k.fuseOk) :
    Calls Tryz.prog 40 #[.pointer (some ⟨d, 0, none⟩)] w fun e w' => e = .returned (.int .i64 k.clear.1) ∧ DiskAt w' d m k.clear.2 ∧ Ext [d, m] w w' := by
  have hr := Remove_calls hd hfu .new
  change Calls Tryz.prog 68 #[.pointer (some ⟨d, 0, none⟩), .string ⟨#[119, 97, 108, 46, 110, 101, 119]⟩] w _ at hr
  unfold Dk.clear
  by_cases h5 : (k.remove .new).1 = 5
  · rw [if_pos h5]
    rw [h5] at hr
    clear h5
    go_enter Tryz.func40, Tryz.ntmps40
    go_wp2_with (go_at_call 68; refine hr.mono ?_; rintro e w' ⟨rfl, h1, h2⟩)
    go_ret
    exact ⟨rfl, h1, h2⟩
  · rw [if_neg h5]
    have hne : ((k.remove .new).1 == 5) = false := by simpa using h5
    clear h5
    go_enter Tryz.func40, Tryz.ntmps40
    go_wp2_with (go_at_call 68; refine hr.mono ?_; rintro e w' ⟨rfl, h1, h2⟩)
    go_ret
    exact ⟨rfl, h1, h2⟩
end Go.Proofs.YtipbfmalacnmkaaGreat
