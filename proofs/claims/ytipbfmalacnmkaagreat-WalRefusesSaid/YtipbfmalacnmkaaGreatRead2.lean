/- What the reader's whole and bytes return. -/
import Derived.Test.YtipbfmalacnmkaaGreatRead1
namespace Go.Proofs.YtipbfmalacnmkaaGreat
open Go.RowKit
theorem ret_int {k : IntKind} {a b : Int} (h : a = b) : Ending.returned (.int k a) = .returned (.int k b) := by rw [h]
set_option maxRecDepth 10000 in
set_option maxHeartbeats 1000000 in
theorem whole_calls (g : Nat) (v : Value) (l rest : List UInt8) (k : Nat) (x : Int) (h1 : -1 ≤ x) (h2 : x ≤ 6) (w : World) (hr : Rdr w g v k) (hv : RdB w.heap.size w v l) (hk : l.drop k = uint (zig x) ++ rest) (hl : l.length ≤ 1099511627776) :
    Calls Tryz.prog 108 #[.pointer (some ⟨g, 0, none⟩)] w fun e w' => e = .returned (.int .i64 x) ∧ Rdr w' g v (k + (uint (zig x)).length) ∧ Ext [g] w w' ∧ w'.heap.size = w.heap.size := by
  have hz : zig x ≤ 1152921504606846976 := by unfold zig; split <;> omega
  have hc := number_calls g v l rest k (zig x) hz w hr hv hk hl
  generalize hL : (uint (zig x)).length = L at hc ⊢
  clear hL hk
  have hx : x = -1 ∨ x = 0 ∨ x = 1 ∨ x = 2 ∨ x = 3 ∨ x = 4 ∨ x = 5 ∨ x = 6 := by omega
  have HC := Lib.hid hc
  clear hc
  rcases hx with rfl | rfl | rfl | rfl | rfl | rfl | rfl | rfl <;>
  · go_enter Tryz.func108, Tryz.ntmps108
    go_wp2_with (go_at_call 106; refine HC.out.mono ?_; rintro e w1 ⟨rfl, hq⟩; simp only [zig])
    go_ret
    exact ⟨ret_int (by unfold wrap64; decide), hq⟩
set_option maxRecDepth 10000 in
set_option maxHeartbeats 1000000 in
theorem bytes_calls (g : Nat) (v : Value) (l m rest : List UInt8) (k : Nat) (w : World) (hr : Rdr w g v k) (hv : RdB w.heap.size w v l) (hk : l.drop k = m ++ rest) (hk2 : k ≤ l.length) (hl : l.length ≤ 1099511627776) :
    Calls Tryz.prog 111 #[.pointer (some ⟨g, 0, none⟩), .int .u64 (m.length : Nat)] w fun e w' => e = .returned (.string ⟨m.toArray⟩) ∧ Rdr w' g v (k + m.length) ∧ Ext [g] w w' ∧ w'.heap.size = w.heap.size := by
  obtain ⟨a, cap, rfl, hcap, hcap2⟩ := hv.shape
  have hm : k + m.length + rest.length = l.length := by
    have := congrArg List.length hk
    simp at this
    omega
  obtain ⟨a', c', hs, hv2⟩ := RdB.slice_lh rfl hv k (k + m.length) (by omega) (by omega)
  rw [show k + m.length - k = m.length by omega] at hs hv2
  rw [hk, List.take_left' rfl] at hv2
  have h0 := hr.c0
  have h1 := hr.c1
  have hf := hr.f1
  have hs1 := fun W => hs (k : Int) ((k : Int) + (m.length : Int)) (by omega) (by omega) W
  clear hs
  have HK := Lib.hid hk
  have HM : k + m.length ≤ l.length := by omega
  clear hk hm
  go_enter Tryz.func111, Tryz.ntmps111
  go_wp2
  go_quiet (fail)
  go_wp2
  have hrW := hr.set (k + m.length) ((k : Int) + (m.length : Int)) (by omega)
  have hrW' : Rdr ((w.drewN nq).setCell ⟨g, 1, none⟩ (.int .i64 ((k : Int) + (m.length : Int)))) g (.slice a l.length cap) (k + m.length) := hrW
  have hx : Ext [g] w ((w.drewN nq).setCell ⟨g, 1, none⟩ (.int .i64 ((k : Int) + (m.length : Int)))) := Ext.setCell (p := ⟨g, 1, none⟩) ((Ext.refl [g] w).drewN _) (.inl (List.mem_singleton.2 rfl)) _
  have hz : ((w.drewN nq).setCell ⟨g, 1, none⟩ (.int .i64 ((k : Int) + (m.length : Int)))).heap.size = w.heap.size := by show (Array.modify w.heap _ _).size = _; rw [Array.size_modify]
  clear hrW
  generalize (w.drewN nq).setCell ⟨g, 1, none⟩ (.int .i64 ((k : Int) + (m.length : Int))) = W at hrW' hx hz ⊢
  have q0 := hrW'.c0
  have q1 := hrW'.c1
  have hv3 : RdB w.heap.size W (.slice a' m.length c') m := Rd.extM hv2 hx (fun q hq cur fz => by
    simp at hq; subst hq; unfold Rdr at hr; rw [hr]; intro e; cases e)
  have hconv : ∀ n, (convert 30 9 (.slice a' m.length c')).run Tryz.prog (W.drewN n) = .ok (.string ⟨m.toArray⟩) (W.drewN n) := fun n => RdB.toStr (B := w.heap.size) (hv3.ext ((Ext.refl [] W).drewN n))
  have HZ := Lib.hid hz
  clear hz
  rw [show ((k + m.length : Nat) : Int) = (k : Int) + (m.length : Int) by omega] at q1
  go_quiet (fail)
  go_wp2
  go_ret
  exact ⟨rfl, hrW', hx.drewN _, HZ.out⟩
end Go.Proofs.YtipbfmalacnmkaaGreat
