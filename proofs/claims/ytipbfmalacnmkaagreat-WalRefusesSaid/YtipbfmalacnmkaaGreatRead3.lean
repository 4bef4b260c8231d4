/- What ReadUint, ReadInt and ReadText return, where the bytes begin with a number, a vote, a text. -/
import Derived.Test.YtipbfmalacnmkaaGreatRead2
namespace Go.Proofs.YtipbfmalacnmkaaGreat
open Go.RowKit
theorem assertNil (w : World) : (Instr.typeAssert .nilIface 20 159 true).run Tryz.prog w = .ok (.tuple #[.agg #[.int .i64 0, .int .i64 0], .bool false]) w := by kernel_rfl
theorem makeFn (fn : Fn) (first cap : Array Value) (w : World) : (Instr.makeFunc fn first cap).run Tryz.prog w = .ok (.func fn first cap) w := rfl


set_option maxRecDepth 20000 in
set_option maxHeartbeats 1000000 in
theorem text1_calls (g : Nat) (v : Value) (l rest : List UInt8) (k : Nat) (s : ByteArray) (hs : s.size ≤ 1099511627776) (w : World) (hr : Rdr w g v k) (hv : RdB w.heap.size w v l) (hk : l.drop k = uint s.size ++ (s.data.toList ++ rest)) (hl : l.length ≤ 1099511627776) :
    Calls Tryz.prog 110 #[.pointer (some ⟨g, 0, none⟩)] w fun e w' => e = .returned (.string s) ∧ Rdr w' g v (k + ((uint s.size).length + s.size)) ∧ Ext [g] w w' ∧ w'.heap.size = w.heap.size := by
  have hss : s.data.toList.length = s.size := by rw [Array.length_toList]; rfl
  have hk2 : k + (uint s.size).length ≤ l.length := by
    have := congrArg List.length hk
    simp at this
    have := uint_pos s.size
    omega
  have hd : l.drop (k + (uint s.size).length) = s.data.toList ++ rest := by
    rw [← List.drop_drop, hk, List.drop_left' rfl]
  have HS := Lib.hid hss
  have HD := Lib.hid hd
  have HK := Lib.hid hk
  clear hss hd hk
  go_enter Tryz.func110, Tryz.ntmps110
  go_wp2_with fail
  refine (number_calls g v l (s.data.toList ++ rest) k s.size (by omega) w hr hv HK.out hl).mono ?_
  rintro e w1 ⟨rfl, hr1, hx1, hz1⟩
  have hv1 : RdB w1.heap.size w1 v l := by
    rw [hz1]
    exact Rd.extM hv hx1 (fun q hq cur fz => by
      simp at hq; subst hq; unfold Rdr at hr; rw [hr]; intro e; cases e)
  have HZ := Lib.hid hz1
  clear hz1
  go_wp2_with fail
  have hb := bytes_calls g v l s.data.toList rest (k + (uint s.size).length) w1 hr1 hv1 HD.out hk2 hl
  rw [HS.out] at hb
  refine hb.mono ?_
  rintro e w2 ⟨rfl, hr2, hx2, hz2⟩
  have HZ2 := Lib.hid hz2
  clear hz2
  go_wp2_with fail
  go_ret
  exact ⟨rfl, by rw [← Nat.add_assoc]; exact hr2, hx1.trans hx2, HZ2.out.trans HZ.out⟩


set_option maxRecDepth 20000 in
theorem catch118 (a b c : Value) (w : World) :
    CallsD Tryz.prog 118 #[a, b, c] .returning w fun e u' w' => e = .returned (.tuple #[]) ∧ u' = .returning ∧ w' = w.alloc (.cells #[.int .i64 0, .int .i64 0] 159) := by
  refine callsD_of_wpS Tryz.func118 rfl fun c₀ cs hu => ?_
  simp only [Tryz.ntmps118, List.size_toArray, List.length_cons, List.length_nil, Nat.reduceAdd, Nat.reduceSub, Array.replicate_succ,
     Array.replicate_zero, List.push_toArray, List.append_toArray, List.nil_append, List.cons_append]
  apply wpS_seq
  apply wpS_region
  simp [wpOpsS, go_sem, recoverD, hu, Exit.thenS, assertNil]
  apply wpS_seq
  apply wpS_region
  simp [wpOpsS, go_sem, Exit.thenS]
  refine wpS_cond (t := false) (by simp [Act.eval]) ?_
  simp only [Bool.false_eq_true, if_false]
  refine wpS_of_wp (wp_skip ?_)
  cases c₀
  simp_all [bodyPostS, results, Tryz.results118]
set_option maxRecDepth 20000 in
set_option maxHeartbeats 1000000 in
theorem read105 (v : Value) (l rest : List UInt8) (n : Nat) (hn : n ≤ 1152921504606846976) (w : World) (hv : RdB w.heap.size w v l) (hk : l = uint n ++ rest) (hl : l.length ≤ 1099511627776) :
    Calls Tryz.prog 105 #[v, .func (.func 106) #[] #[]] w fun e w' => e = .returned (.tuple #[.int .u64 (n : Nat), .int .i64 ((uint n).length : Nat), .int .i64 0]) ∧ Below w.heap.size w w' := by
  obtain ⟨a, cap, rfl, hcap, hcap2⟩ := hv.shape
  have hmf := makeFn
  have HK := Lib.hid hk
  clear hk
  obtain ⟨K, hKe⟩ : ∃ K : Nat, (uint n).length = K := ⟨_, rfl⟩
  rw [hKe]
  have HE := Lib.hid hKe
  clear hKe
  go_enter_defers Tryz.func105, Tryz.ntmps105
  go_wp2_with fail
  have hr0 : Rdr ((((w.alloc (.cells #[.int .u64 0] 85)).alloc (.cells #[.int .i64 0] 3)).alloc (.cells #[.int .i64 0] 38)).alloc (.cells #[.slice a l.length cap, .int .i64 0] 162)) (w.heap.size + 1 + 1 + 1) (.slice a l.length cap) 0 := by
    have := heap_alloc_new (((w.alloc (.cells #[.int .u64 0] 85)).alloc (.cells #[.int .i64 0] 3)).alloc (.cells #[.int .i64 0] 38)) (.cells #[.slice a l.length cap, .int .i64 0] 162)
    simpa [Rdr] using this
  have hx0 : Ext [] w ((((w.alloc (.cells #[.int .u64 0] 85)).alloc (.cells #[.int .i64 0] 3)).alloc (.cells #[.int .i64 0] 38)).alloc (.cells #[.slice a l.length cap, .int .i64 0] 162)) := ((((Ext.refl [] w).alloc _).alloc _).alloc _).alloc _
  have e0 : ((((w.alloc (.cells #[.int .u64 0] 85)).alloc (.cells #[.int .i64 0] 3)).alloc (.cells #[.int .i64 0] 38)).alloc (.cells #[.slice a l.length cap, .int .i64 0] 162)).cell? ⟨w.heap.size, 0, none⟩ = some (.int .u64 0) := by simp [go_sem]
  have e1 : ((((w.alloc (.cells #[.int .u64 0] 85)).alloc (.cells #[.int .i64 0] 3)).alloc (.cells #[.int .i64 0] 38)).alloc (.cells #[.slice a l.length cap, .int .i64 0] 162)).cell? ⟨w.heap.size + 1, 0, none⟩ = some (.int .i64 0) := by simp [go_sem]
  have e2 : ((((w.alloc (.cells #[.int .u64 0] 85)).alloc (.cells #[.int .i64 0] 3)).alloc (.cells #[.int .i64 0] 38)).alloc (.cells #[.slice a l.length cap, .int .i64 0] 162)).cell? ⟨w.heap.size + 1 + 1, 0, none⟩ = some (.int .i64 0) := by simp [go_sem]
  have f0 : ((((w.alloc (.cells #[.int .u64 0] 85)).alloc (.cells #[.int .i64 0] 3)).alloc (.cells #[.int .i64 0] 38)).alloc (.cells #[.slice a l.length cap, .int .i64 0] 162)).frozen? ⟨w.heap.size, 0, none⟩ = false := by simp [go_sem]
  have f1 : ((((w.alloc (.cells #[.int .u64 0] 85)).alloc (.cells #[.int .i64 0] 3)).alloc (.cells #[.int .i64 0] 38)).alloc (.cells #[.slice a l.length cap, .int .i64 0] 162)).frozen? ⟨w.heap.size + 1, 0, none⟩ = false := by simp [go_sem]
  have f2 : ((((w.alloc (.cells #[.int .u64 0] 85)).alloc (.cells #[.int .i64 0] 3)).alloc (.cells #[.int .i64 0] 38)).alloc (.cells #[.slice a l.length cap, .int .i64 0] 162)).frozen? ⟨w.heap.size + 1 + 1, 0, none⟩ = false := by simp [go_sem]
  have hz0 : ((((w.alloc (.cells #[.int .u64 0] 85)).alloc (.cells #[.int .i64 0] 3)).alloc (.cells #[.int .i64 0] 38)).alloc (.cells #[.slice a l.length cap, .int .i64 0] 162)).heap.size = w.heap.size + 1 + 1 + 1 + 1 := by simp
  generalize (((w.alloc (.cells #[.int .u64 0] 85)).alloc (.cells #[.int .i64 0] 3)).alloc (.cells #[.int .i64 0] 38)).alloc (.cells #[.slice a l.length cap, .int .i64 0] 162) = W at hr0 hx0 e0 e1 e2 f0 f1 f2 hz0 ⊢
  refine (number_calls _ _ l rest 0 n hn W hr0 ((hv.ext hx0).mono hx0.size) (by rw [HK.out]; rfl) hl).mono ?_
  rintro e w1 ⟨rfl, hr1, hx1, hz1⟩
  rw [Nat.zero_add, HE.out] at hr1
  have HZ := Lib.hid hz0
  have HZ1 := Lib.hid hz1
  have b0 := hx1.cellAt (b := w.heap.size) (o := 0) (by omega) (by simp; omega)
  have b1 := hx1.cellAt (b := w.heap.size + 1) (o := 0) (by omega) (by simp)
  have b2 := hx1.cellAt (b := w.heap.size + 1 + 1) (o := 0) (by omega) (by simp)
  have g0 := hx1.frozenAt (b := w.heap.size) (o := 0) (by omega) (by simp; omega)
  have g1 := hx1.frozenAt (b := w.heap.size + 1) (o := 0) (by omega) (by simp)
  have g2 := hx1.frozenAt (b := w.heap.size + 1 + 1) (o := 0) (by omega) (by simp)
  rw [e0] at b0
  rw [e1] at b1
  rw [e2] at b2
  rw [f0] at g0
  rw [f1] at g1
  rw [f2] at g2
  clear e0 e1 e2 f0 f1 f2 hz0 hz1 hr0
  have r0 := hr1.c0
  have r1 := hr1.c1
  go_wp2_with fail
  go_region
  all_goals go_wp2
  have hs1 : w.heap.size < w1.heap.size := by rw [HZ1.out, HZ.out]; omega
  have hs2 : w.heap.size + 1 < w1.heap.size := by rw [HZ1.out, HZ.out]; omega
  have hs3 : w.heap.size + 1 + 1 < w1.heap.size := by rw [HZ1.out, HZ.out]; omega
  have hB : Below w.heap.size w w1 := (hx0.below (Nat.le_refl _) (by simp)).trans (hx1.below (by rw [HZ.out]; omega) (by simp; omega))
  obtain ⟨W2, hW2, d0, d1, d2, hB2, z2⟩ : ∃ W2, ((((w1.setCell ⟨w.heap.size, 0, none⟩ (.int .u64 (n : Nat))).setCell ⟨w.heap.size, 0, none⟩ (.int .u64 (n : Nat))).setCell ⟨w.heap.size + 1, 0, none⟩ (.int .i64 (K : Nat))).setCell ⟨w.heap.size + 1 + 1, 0, none⟩ (.int .i64 0)).drew = W2 ∧
      W2.cell? ⟨w.heap.size, 0, none⟩ = some (.int .u64 (n : Nat)) ∧ W2.cell? ⟨w.heap.size + 1, 0, none⟩ = some (.int .i64 (K : Nat)) ∧ W2.cell? ⟨w.heap.size + 1 + 1, 0, none⟩ = some (.int .i64 0) ∧ Below w.heap.size w W2 ∧ W2.heap.size = w1.heap.size := by
    refine ⟨_, rfl, ?_, ?_, ?_, ?_, ?_⟩
    · exact cell_set_ne (cell_set_ne (cell_set (cell_set b0 _) _) _ (by omega)) _ (by omega)
    · exact cell_set_ne (cell_set (cell_set_ne (cell_set_ne b1 _ (by omega)) _ (by omega)) _) _ (by omega)
    · exact cell_set (cell_set_ne (cell_set_ne (cell_set_ne b2 _ (by omega)) _ (by omega)) _ (by omega)) _
    · exact ((((hB.setCell (p := ⟨w.heap.size, 0, none⟩) (Nat.le_refl _) _).setCell (p := ⟨w.heap.size, 0, none⟩) (Nat.le_refl _) _).setCell (p := ⟨w.heap.size + 1, 0, none⟩) (by simp) _).setCell (p := ⟨w.heap.size + 1 + 1, 0, none⟩) (by simp; omega) _).drew
    · simp [go_sem]
  rw [hW2]
  clear hW2 b0 b1 b2 g0 g1 g2 r0 r1 hx1 hr1 hx0 HZ
  have hz2 : w.heap.size + 1 + 1 < W2.heap.size := by rw [z2]; exact hs3
  clear z2 HZ1
  refine leaves_cons (f := 118) (args := #[.pointer (some ⟨w.heap.size, 0, none⟩), .pointer (some ⟨w.heap.size + 1, 0, none⟩), .pointer (some ⟨w.heap.size + 1 + 1, 0, none⟩)]) (by simp) (by simp [go_sem]) ?_
  refine (catch118 _ _ _ _).mono ?_
  rintro e u' w'' ⟨rfl, rfl, rfl⟩
  have d0 := cell_push d0 (.cells #[.int .i64 0, .int .i64 0] 159) (by omega)
  have d1 := cell_push d1 (.cells #[.int .i64 0, .int .i64 0] 159) (by omega)
  have d2 := cell_push d2 (.cells #[.int .i64 0, .int .i64 0] 159) (by omega)
  have hB3 := hB2.alloc (Nat.le_of_lt (by omega)) (.cells #[.int .i64 0, .int .i64 0] 159)
  generalize W2.alloc (.cells #[.int .i64 0, .int .i64 0] 159) = W3 at d0 d1 d2 hB3 ⊢
  simp [Leaves, settle, results, Tryz.results105, go_sem, d0, d1, d2]
  exact hB3


set_option maxRecDepth 20000 in
set_option maxHeartbeats 400000 in
theorem ReadUint_calls (v : Value) (l rest : List UInt8) (n : Nat) (hn : n ≤ 1152921504606846976) (w : World) (hv : RdB w.heap.size w v l) (hk : l = uint n ++ rest) (hl : l.length ≤ 1099511627776) :
    Calls Tryz.prog 90 #[v] w fun e w' => e = .returned (.tuple #[.int .u64 (n : Nat), .int .i64 ((uint n).length : Nat), .int .i64 0]) ∧ Below w.heap.size w w' := by
  have HK := Lib.hid hk
  clear hk
  go_enter Tryz.func90, Tryz.ntmps90
  go_wp2_with (go_at_call 105; refine (read105 v l rest n hn w hv HK.out hl).mono ?_; rintro e w1 ⟨rfl, hb⟩)
  go_ret3
  exact ⟨rfl, hb⟩


set_option maxRecDepth 20000 in
theorem catch121 (a b c : Value) (w : World) :
    CallsD Tryz.prog 121 #[a, b, c] .returning w fun e u' w' => e = .returned (.tuple #[]) ∧ u' = .returning ∧ w' = w.alloc (.cells #[.int .i64 0, .int .i64 0] 159) := by
  refine callsD_of_wpS Tryz.func121 rfl fun c₀ cs hu => ?_
  simp only [Tryz.ntmps121, List.size_toArray, List.length_cons, List.length_nil, Nat.reduceAdd, Nat.reduceSub, Array.replicate_succ,
     Array.replicate_zero, List.push_toArray, List.append_toArray, List.nil_append, List.cons_append]
  apply wpS_seq
  apply wpS_region
  simp [wpOpsS, go_sem, recoverD, hu, Exit.thenS, assertNil]
  apply wpS_seq
  apply wpS_region
  simp [wpOpsS, go_sem, Exit.thenS]
  refine wpS_cond (t := false) (by simp [Act.eval]) ?_
  simp only [Bool.false_eq_true, if_false]
  refine wpS_of_wp (wp_skip ?_)
  cases c₀
  simp_all [bodyPostS, results, Tryz.results121]
set_option maxRecDepth 20000 in
set_option maxHeartbeats 1000000 in
theorem read107 (v : Value) (l rest : List UInt8) (x : Int) (h1 : -1 ≤ x) (h2 : x ≤ 6) (w : World) (hv : RdB w.heap.size w v l) (hk : l = uint (zig x) ++ rest) (hl : l.length ≤ 1099511627776) :
    Calls Tryz.prog 107 #[v, .func (.func 108) #[] #[]] w fun e w' => e = .returned (.tuple #[.int .i64 x, .int .i64 ((uint (zig x)).length : Nat), .int .i64 0]) ∧ Below w.heap.size w w' := by
  obtain ⟨a, cap, rfl, hcap, hcap2⟩ := hv.shape
  have hmf := makeFn
  have HK := Lib.hid hk
  clear hk
  obtain ⟨K, hKe⟩ : ∃ K : Nat, (uint (zig x)).length = K := ⟨_, rfl⟩
  rw [hKe]
  have HE := Lib.hid hKe
  clear hKe
  go_enter_defers Tryz.func107, Tryz.ntmps107
  go_wp2_with fail
  have hr0 : Rdr ((((w.alloc (.cells #[.int .i64 0] 2)).alloc (.cells #[.int .i64 0] 3)).alloc (.cells #[.int .i64 0] 38)).alloc (.cells #[.slice a l.length cap, .int .i64 0] 162)) (w.heap.size + 1 + 1 + 1) (.slice a l.length cap) 0 := by
    have := heap_alloc_new (((w.alloc (.cells #[.int .i64 0] 2)).alloc (.cells #[.int .i64 0] 3)).alloc (.cells #[.int .i64 0] 38)) (.cells #[.slice a l.length cap, .int .i64 0] 162)
    simpa [Rdr] using this
  have hx0 : Ext [] w ((((w.alloc (.cells #[.int .i64 0] 2)).alloc (.cells #[.int .i64 0] 3)).alloc (.cells #[.int .i64 0] 38)).alloc (.cells #[.slice a l.length cap, .int .i64 0] 162)) := ((((Ext.refl [] w).alloc _).alloc _).alloc _).alloc _
  have e0 : ((((w.alloc (.cells #[.int .i64 0] 2)).alloc (.cells #[.int .i64 0] 3)).alloc (.cells #[.int .i64 0] 38)).alloc (.cells #[.slice a l.length cap, .int .i64 0] 162)).cell? ⟨w.heap.size, 0, none⟩ = some (.int .i64 0) := by simp [go_sem]
  have e1 : ((((w.alloc (.cells #[.int .i64 0] 2)).alloc (.cells #[.int .i64 0] 3)).alloc (.cells #[.int .i64 0] 38)).alloc (.cells #[.slice a l.length cap, .int .i64 0] 162)).cell? ⟨w.heap.size + 1, 0, none⟩ = some (.int .i64 0) := by simp [go_sem]
  have e2 : ((((w.alloc (.cells #[.int .i64 0] 2)).alloc (.cells #[.int .i64 0] 3)).alloc (.cells #[.int .i64 0] 38)).alloc (.cells #[.slice a l.length cap, .int .i64 0] 162)).cell? ⟨w.heap.size + 1 + 1, 0, none⟩ = some (.int .i64 0) := by simp [go_sem]
  have f0 : ((((w.alloc (.cells #[.int .i64 0] 2)).alloc (.cells #[.int .i64 0] 3)).alloc (.cells #[.int .i64 0] 38)).alloc (.cells #[.slice a l.length cap, .int .i64 0] 162)).frozen? ⟨w.heap.size, 0, none⟩ = false := by simp [go_sem]
  have f1 : ((((w.alloc (.cells #[.int .i64 0] 2)).alloc (.cells #[.int .i64 0] 3)).alloc (.cells #[.int .i64 0] 38)).alloc (.cells #[.slice a l.length cap, .int .i64 0] 162)).frozen? ⟨w.heap.size + 1, 0, none⟩ = false := by simp [go_sem]
  have f2 : ((((w.alloc (.cells #[.int .i64 0] 2)).alloc (.cells #[.int .i64 0] 3)).alloc (.cells #[.int .i64 0] 38)).alloc (.cells #[.slice a l.length cap, .int .i64 0] 162)).frozen? ⟨w.heap.size + 1 + 1, 0, none⟩ = false := by simp [go_sem]
  have hz0 : ((((w.alloc (.cells #[.int .i64 0] 2)).alloc (.cells #[.int .i64 0] 3)).alloc (.cells #[.int .i64 0] 38)).alloc (.cells #[.slice a l.length cap, .int .i64 0] 162)).heap.size = w.heap.size + 1 + 1 + 1 + 1 := by simp
  generalize (((w.alloc (.cells #[.int .i64 0] 2)).alloc (.cells #[.int .i64 0] 3)).alloc (.cells #[.int .i64 0] 38)).alloc (.cells #[.slice a l.length cap, .int .i64 0] 162) = W at hr0 hx0 e0 e1 e2 f0 f1 f2 hz0 ⊢
  refine (whole_calls _ _ l rest 0 x h1 h2 W hr0 ((hv.ext hx0).mono hx0.size) (by rw [HK.out]; rfl) hl).mono ?_
  rintro e w1 ⟨rfl, hr1, hx1, hz1⟩
  rw [Nat.zero_add, HE.out] at hr1
  have HZ := Lib.hid hz0
  have HZ1 := Lib.hid hz1
  have b0 := hx1.cellAt (b := w.heap.size) (o := 0) (by omega) (by simp; omega)
  have b1 := hx1.cellAt (b := w.heap.size + 1) (o := 0) (by omega) (by simp)
  have b2 := hx1.cellAt (b := w.heap.size + 1 + 1) (o := 0) (by omega) (by simp)
  have g0 := hx1.frozenAt (b := w.heap.size) (o := 0) (by omega) (by simp; omega)
  have g1 := hx1.frozenAt (b := w.heap.size + 1) (o := 0) (by omega) (by simp)
  have g2 := hx1.frozenAt (b := w.heap.size + 1 + 1) (o := 0) (by omega) (by simp)
  rw [e0] at b0
  rw [e1] at b1
  rw [e2] at b2
  rw [f0] at g0
  rw [f1] at g1
  rw [f2] at g2
  clear e0 e1 e2 f0 f1 f2 hz0 hz1 hr0
  have r0 := hr1.c0
  have r1 := hr1.c1
  go_wp2_with fail
  go_region
  all_goals go_wp2
  have hs1 : w.heap.size < w1.heap.size := by rw [HZ1.out, HZ.out]; omega
  have hs2 : w.heap.size + 1 < w1.heap.size := by rw [HZ1.out, HZ.out]; omega
  have hs3 : w.heap.size + 1 + 1 < w1.heap.size := by rw [HZ1.out, HZ.out]; omega
  have hB : Below w.heap.size w w1 := (hx0.below (Nat.le_refl _) (by simp)).trans (hx1.below (by rw [HZ.out]; omega) (by simp; omega))
  obtain ⟨W2, hW2, d0, d1, d2, hB2, z2⟩ : ∃ W2, ((((w1.setCell ⟨w.heap.size, 0, none⟩ (.int .i64 x)).setCell ⟨w.heap.size, 0, none⟩ (.int .i64 x)).setCell ⟨w.heap.size + 1, 0, none⟩ (.int .i64 (K : Nat))).setCell ⟨w.heap.size + 1 + 1, 0, none⟩ (.int .i64 0)).drew = W2 ∧
      W2.cell? ⟨w.heap.size, 0, none⟩ = some (.int .i64 x) ∧ W2.cell? ⟨w.heap.size + 1, 0, none⟩ = some (.int .i64 (K : Nat)) ∧ W2.cell? ⟨w.heap.size + 1 + 1, 0, none⟩ = some (.int .i64 0) ∧ Below w.heap.size w W2 ∧ W2.heap.size = w1.heap.size := by
    refine ⟨_, rfl, ?_, ?_, ?_, ?_, ?_⟩
    · exact cell_set_ne (cell_set_ne (cell_set (cell_set b0 _) _) _ (by omega)) _ (by omega)
    · exact cell_set_ne (cell_set (cell_set_ne (cell_set_ne b1 _ (by omega)) _ (by omega)) _) _ (by omega)
    · exact cell_set (cell_set_ne (cell_set_ne (cell_set_ne b2 _ (by omega)) _ (by omega)) _ (by omega)) _
    · exact ((((hB.setCell (p := ⟨w.heap.size, 0, none⟩) (Nat.le_refl _) _).setCell (p := ⟨w.heap.size, 0, none⟩) (Nat.le_refl _) _).setCell (p := ⟨w.heap.size + 1, 0, none⟩) (by simp) _).setCell (p := ⟨w.heap.size + 1 + 1, 0, none⟩) (by simp; omega) _).drew
    · simp [go_sem]
  rw [hW2]
  clear hW2 b0 b1 b2 g0 g1 g2 r0 r1 hx1 hr1 hx0 HZ
  have hz2 : w.heap.size + 1 + 1 < W2.heap.size := by rw [z2]; exact hs3
  clear z2 HZ1
  refine leaves_cons (f := 121) (args := #[.pointer (some ⟨w.heap.size, 0, none⟩), .pointer (some ⟨w.heap.size + 1, 0, none⟩), .pointer (some ⟨w.heap.size + 1 + 1, 0, none⟩)]) (by simp) (by simp [go_sem]) ?_
  refine (catch121 _ _ _ _).mono ?_
  rintro e u' w'' ⟨rfl, rfl, rfl⟩
  have d0 := cell_push d0 (.cells #[.int .i64 0, .int .i64 0] 159) (by omega)
  have d1 := cell_push d1 (.cells #[.int .i64 0, .int .i64 0] 159) (by omega)
  have d2 := cell_push d2 (.cells #[.int .i64 0, .int .i64 0] 159) (by omega)
  have hB3 := hB2.alloc (Nat.le_of_lt (by omega)) (.cells #[.int .i64 0, .int .i64 0] 159)
  generalize W2.alloc (.cells #[.int .i64 0, .int .i64 0] 159) = W3 at d0 d1 d2 hB3 ⊢
  simp [Leaves, settle, results, Tryz.results107, go_sem, d0, d1, d2]
  exact hB3


set_option maxRecDepth 20000 in
set_option maxHeartbeats 400000 in
theorem ReadInt_calls (v : Value) (l rest : List UInt8) (x : Int) (h1 : -1 ≤ x) (h2 : x ≤ 6) (w : World) (hv : RdB w.heap.size w v l) (hk : l = uint (zig x) ++ rest) (hl : l.length ≤ 1099511627776) :
    Calls Tryz.prog 91 #[v] w fun e w' => e = .returned (.tuple #[.int .i64 x, .int .i64 ((uint (zig x)).length : Nat), .int .i64 0]) ∧ Below w.heap.size w w' := by
  have HK := Lib.hid hk
  clear hk
  go_enter Tryz.func91, Tryz.ntmps91
  go_wp2_with (go_at_call 107; refine (read107 v l rest x h1 h2 w hv HK.out hl).mono ?_; rintro e w1 ⟨rfl, hb⟩)
  go_ret3
  exact ⟨rfl, hb⟩


set_option maxRecDepth 20000 in
theorem catch122 (a b c : Value) (w : World) :
    CallsD Tryz.prog 122 #[a, b, c] .returning w fun e u' w' => e = .returned (.tuple #[]) ∧ u' = .returning ∧ w' = w.alloc (.cells #[.int .i64 0, .int .i64 0] 159) := by
  refine callsD_of_wpS Tryz.func122 rfl fun c₀ cs hu => ?_
  simp only [Tryz.ntmps122, List.size_toArray, List.length_cons, List.length_nil, Nat.reduceAdd, Nat.reduceSub, Array.replicate_succ,
     Array.replicate_zero, List.push_toArray, List.append_toArray, List.nil_append, List.cons_append]
  apply wpS_seq
  apply wpS_region
  simp [wpOpsS, go_sem, recoverD, hu, Exit.thenS, assertNil]
  apply wpS_seq
  apply wpS_region
  simp [wpOpsS, go_sem, Exit.thenS]
  refine wpS_cond (t := false) (by simp [Act.eval]) ?_
  simp only [Bool.false_eq_true, if_false]
  refine wpS_of_wp (wp_skip ?_)
  cases c₀
  simp_all [bodyPostS, results, Tryz.results122]
set_option maxRecDepth 20000 in
set_option maxHeartbeats 1000000 in
theorem read109 (v : Value) (l rest : List UInt8) (s : ByteArray) (hs : s.size ≤ 1099511627776) (w : World) (hv : RdB w.heap.size w v l) (hk : l = uint s.size ++ (s.data.toList ++ rest)) (hl : l.length ≤ 1099511627776) :
    Calls Tryz.prog 109 #[v, .func (.func 110) #[] #[]] w fun e w' => e = .returned (.tuple #[.string s, .int .i64 ((uint s.size).length + s.size : Nat), .int .i64 0]) ∧ Below w.heap.size w w' := by
  obtain ⟨a, cap, rfl, hcap, hcap2⟩ := hv.shape
  have hmf := makeFn
  have HK := Lib.hid hk
  clear hk
  obtain ⟨K, hKe⟩ : ∃ K : Nat, (uint s.size).length + s.size = K := ⟨_, rfl⟩
  rw [hKe]
  have HE := Lib.hid hKe
  clear hKe
  go_enter_defers Tryz.func109, Tryz.ntmps109
  go_wp2_with fail
  have hr0 : Rdr ((((w.alloc (.cells #[.string ⟨#[]⟩] 9)).alloc (.cells #[.int .i64 0] 3)).alloc (.cells #[.int .i64 0] 38)).alloc (.cells #[.slice a l.length cap, .int .i64 0] 162)) (w.heap.size + 1 + 1 + 1) (.slice a l.length cap) 0 := by
    have := heap_alloc_new (((w.alloc (.cells #[.string ⟨#[]⟩] 9)).alloc (.cells #[.int .i64 0] 3)).alloc (.cells #[.int .i64 0] 38)) (.cells #[.slice a l.length cap, .int .i64 0] 162)
    simpa [Rdr] using this
  have hx0 : Ext [] w ((((w.alloc (.cells #[.string ⟨#[]⟩] 9)).alloc (.cells #[.int .i64 0] 3)).alloc (.cells #[.int .i64 0] 38)).alloc (.cells #[.slice a l.length cap, .int .i64 0] 162)) := ((((Ext.refl [] w).alloc _).alloc _).alloc _).alloc _
  have e0 : ((((w.alloc (.cells #[.string ⟨#[]⟩] 9)).alloc (.cells #[.int .i64 0] 3)).alloc (.cells #[.int .i64 0] 38)).alloc (.cells #[.slice a l.length cap, .int .i64 0] 162)).cell? ⟨w.heap.size, 0, none⟩ = some (.string ⟨#[]⟩) := by simp [go_sem]
  have e1 : ((((w.alloc (.cells #[.string ⟨#[]⟩] 9)).alloc (.cells #[.int .i64 0] 3)).alloc (.cells #[.int .i64 0] 38)).alloc (.cells #[.slice a l.length cap, .int .i64 0] 162)).cell? ⟨w.heap.size + 1, 0, none⟩ = some (.int .i64 0) := by simp [go_sem]
  have e2 : ((((w.alloc (.cells #[.string ⟨#[]⟩] 9)).alloc (.cells #[.int .i64 0] 3)).alloc (.cells #[.int .i64 0] 38)).alloc (.cells #[.slice a l.length cap, .int .i64 0] 162)).cell? ⟨w.heap.size + 1 + 1, 0, none⟩ = some (.int .i64 0) := by simp [go_sem]
  have f0 : ((((w.alloc (.cells #[.string ⟨#[]⟩] 9)).alloc (.cells #[.int .i64 0] 3)).alloc (.cells #[.int .i64 0] 38)).alloc (.cells #[.slice a l.length cap, .int .i64 0] 162)).frozen? ⟨w.heap.size, 0, none⟩ = false := by simp [go_sem]
  have f1 : ((((w.alloc (.cells #[.string ⟨#[]⟩] 9)).alloc (.cells #[.int .i64 0] 3)).alloc (.cells #[.int .i64 0] 38)).alloc (.cells #[.slice a l.length cap, .int .i64 0] 162)).frozen? ⟨w.heap.size + 1, 0, none⟩ = false := by simp [go_sem]
  have f2 : ((((w.alloc (.cells #[.string ⟨#[]⟩] 9)).alloc (.cells #[.int .i64 0] 3)).alloc (.cells #[.int .i64 0] 38)).alloc (.cells #[.slice a l.length cap, .int .i64 0] 162)).frozen? ⟨w.heap.size + 1 + 1, 0, none⟩ = false := by simp [go_sem]
  have hz0 : ((((w.alloc (.cells #[.string ⟨#[]⟩] 9)).alloc (.cells #[.int .i64 0] 3)).alloc (.cells #[.int .i64 0] 38)).alloc (.cells #[.slice a l.length cap, .int .i64 0] 162)).heap.size = w.heap.size + 1 + 1 + 1 + 1 := by simp
  generalize (((w.alloc (.cells #[.string ⟨#[]⟩] 9)).alloc (.cells #[.int .i64 0] 3)).alloc (.cells #[.int .i64 0] 38)).alloc (.cells #[.slice a l.length cap, .int .i64 0] 162) = W at hr0 hx0 e0 e1 e2 f0 f1 f2 hz0 ⊢
  refine (text1_calls _ _ l rest 0 s hs W hr0 ((hv.ext hx0).mono hx0.size) (by rw [HK.out]; rfl) hl).mono ?_
  rintro e w1 ⟨rfl, hr1, hx1, hz1⟩
  rw [Nat.zero_add, HE.out] at hr1
  have HZ := Lib.hid hz0
  have HZ1 := Lib.hid hz1
  have b0 := hx1.cellAt (b := w.heap.size) (o := 0) (by omega) (by simp; omega)
  have b1 := hx1.cellAt (b := w.heap.size + 1) (o := 0) (by omega) (by simp)
  have b2 := hx1.cellAt (b := w.heap.size + 1 + 1) (o := 0) (by omega) (by simp)
  have g0 := hx1.frozenAt (b := w.heap.size) (o := 0) (by omega) (by simp; omega)
  have g1 := hx1.frozenAt (b := w.heap.size + 1) (o := 0) (by omega) (by simp)
  have g2 := hx1.frozenAt (b := w.heap.size + 1 + 1) (o := 0) (by omega) (by simp)
  rw [e0] at b0
  rw [e1] at b1
  rw [e2] at b2
  rw [f0] at g0
  rw [f1] at g1
  rw [f2] at g2
  clear e0 e1 e2 f0 f1 f2 hz0 hz1 hr0
  have r0 := hr1.c0
  have r1 := hr1.c1
  go_wp2_with fail
  go_region
  all_goals go_wp2
  have hs1 : w.heap.size < w1.heap.size := by rw [HZ1.out, HZ.out]; omega
  have hs2 : w.heap.size + 1 < w1.heap.size := by rw [HZ1.out, HZ.out]; omega
  have hs3 : w.heap.size + 1 + 1 < w1.heap.size := by rw [HZ1.out, HZ.out]; omega
  have hB : Below w.heap.size w w1 := (hx0.below (Nat.le_refl _) (by simp)).trans (hx1.below (by rw [HZ.out]; omega) (by simp; omega))
  obtain ⟨W2, hW2, d0, d1, d2, hB2, z2⟩ : ∃ W2, ((((w1.setCell ⟨w.heap.size, 0, none⟩ (.string s)).setCell ⟨w.heap.size, 0, none⟩ (.string s)).setCell ⟨w.heap.size + 1, 0, none⟩ (.int .i64 (K : Nat))).setCell ⟨w.heap.size + 1 + 1, 0, none⟩ (.int .i64 0)).drew = W2 ∧
      W2.cell? ⟨w.heap.size, 0, none⟩ = some (.string s) ∧ W2.cell? ⟨w.heap.size + 1, 0, none⟩ = some (.int .i64 (K : Nat)) ∧ W2.cell? ⟨w.heap.size + 1 + 1, 0, none⟩ = some (.int .i64 0) ∧ Below w.heap.size w W2 ∧ W2.heap.size = w1.heap.size := by
    refine ⟨_, rfl, ?_, ?_, ?_, ?_, ?_⟩
    · exact cell_set_ne (cell_set_ne (cell_set (cell_set b0 _) _) _ (by omega)) _ (by omega)
    · exact cell_set_ne (cell_set (cell_set_ne (cell_set_ne b1 _ (by omega)) _ (by omega)) _) _ (by omega)
    · exact cell_set (cell_set_ne (cell_set_ne (cell_set_ne b2 _ (by omega)) _ (by omega)) _ (by omega)) _
    · exact ((((hB.setCell (p := ⟨w.heap.size, 0, none⟩) (Nat.le_refl _) _).setCell (p := ⟨w.heap.size, 0, none⟩) (Nat.le_refl _) _).setCell (p := ⟨w.heap.size + 1, 0, none⟩) (by simp) _).setCell (p := ⟨w.heap.size + 1 + 1, 0, none⟩) (by simp; omega) _).drew
    · simp [go_sem]
  rw [hW2]
  clear hW2 b0 b1 b2 g0 g1 g2 r0 r1 hx1 hr1 hx0 HZ
  have hz2 : w.heap.size + 1 + 1 < W2.heap.size := by rw [z2]; exact hs3
  clear z2 HZ1
  refine leaves_cons (f := 122) (args := #[.pointer (some ⟨w.heap.size, 0, none⟩), .pointer (some ⟨w.heap.size + 1, 0, none⟩), .pointer (some ⟨w.heap.size + 1 + 1, 0, none⟩)]) (by simp) (by simp [go_sem]) ?_
  refine (catch122 _ _ _ _).mono ?_
  rintro e u' w'' ⟨rfl, rfl, rfl⟩
  have d0 := cell_push d0 (.cells #[.int .i64 0, .int .i64 0] 159) (by omega)
  have d1 := cell_push d1 (.cells #[.int .i64 0, .int .i64 0] 159) (by omega)
  have d2 := cell_push d2 (.cells #[.int .i64 0, .int .i64 0] 159) (by omega)
  have hB3 := hB2.alloc (Nat.le_of_lt (by omega)) (.cells #[.int .i64 0, .int .i64 0] 159)
  generalize W2.alloc (.cells #[.int .i64 0, .int .i64 0] 159) = W3 at d0 d1 d2 hB3 ⊢
  simp [Leaves, settle, results, Tryz.results109, go_sem, d0, d1, d2]
  exact hB3


set_option maxRecDepth 20000 in
set_option maxHeartbeats 400000 in
theorem ReadText_calls (v : Value) (l rest : List UInt8) (s : ByteArray) (hs : s.size ≤ 1099511627776) (w : World) (hv : RdB w.heap.size w v l) (hk : l = uint s.size ++ (s.data.toList ++ rest)) (hl : l.length ≤ 1099511627776) :
    Calls Tryz.prog 92 #[v] w fun e w' => e = .returned (.tuple #[.string s, .int .i64 ((uint s.size).length + s.size : Nat), .int .i64 0]) ∧ Below w.heap.size w w' := by
  have HK := Lib.hid hk
  clear hk
  go_enter Tryz.func92, Tryz.ntmps92
  go_wp2_with (go_at_call 109; refine (read109 v l rest s hs w hv HK.out hl).mono ?_; rintro e w1 ⟨rfl, hb⟩)
  go_ret3
  exact ⟨rfl, hb⟩

end Go.Proofs.YtipbfmalacnmkaaGreat
