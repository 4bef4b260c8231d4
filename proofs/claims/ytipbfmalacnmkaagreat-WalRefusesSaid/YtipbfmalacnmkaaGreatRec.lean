/- What wal.record returns: the record of what may be kept. -/
import Derived.Test.YtipbfmalacnmkaaGreatSav3
import Derived.Test.YtipbfmalacnmkaaGreatCode1
import Derived.Deep.DeepCutAuto
import Derived.Deep.CutBlock
namespace Go.Proofs.YtipbfmalacnmkaaGreat
open Go.RowKit

theorem common_step {L M : List Ent} {k : Nat} (h1 : k < L.length) (h2 : k < M.length) (he : L[k] = M[k]) : common (L.drop k) (M.drop k) = common (L.drop (k + 1)) (M.drop (k + 1)) + 1 := by
  rw [List.drop_eq_getElem_cons h1, List.drop_eq_getElem_cons h2]
  simp [common, he]
theorem common_stop {L M : List Ent} {k : Nat} (h1 : k < L.length) (h2 : k < M.length) (he : ¬ L[k] = M[k]) : common (L.drop k) (M.drop k) = 0 := by
  rw [List.drop_eq_getElem_cons h1, List.drop_eq_getElem_cons h2]
  simp [common, he]
theorem common_end1 {L M : List Ent} {k : Nat} (h1 : L.length ≤ k) : common (L.drop k) (M.drop k) = 0 := by
  rw [List.drop_eq_nil_of_le h1]; simp [common]
theorem common_end2 {L M : List Ent} {k : Nat} (h1 : M.length ≤ k) : common (L.drop k) (M.drop k) = 0 := by
  rw [List.drop_eq_nil_of_le h1]; cases L.drop k <;> simp [common]
theorem eql29 (x y : Ent) (w : World) : (binOp .eql 29 (.agg #[.int .i64 x.term, .string x.data]) (.agg #[.int .i64 y.term, .string y.data])).run Tryz.prog w = .ok (.bool (decide (x = y))) w := by
  have h := neq29 x y w
  rw [run_neq_struct] at h
  rw [run_eql_struct]
  cases hr : (Op.equalIn 10000 29 (.agg #[.int .i64 x.term, .string x.data]) (.agg #[.int .i64 y.term, .string y.data])).run Tryz.prog w with
  | ok b w' =>
    rw [hr] at h
    simp only [Result.andThen_ok, Result.ok.injEq, Value.bool.injEq] at h
    obtain ⟨h1, h2⟩ := h
    simp only [Result.andThen_ok, h2]
    cases b <;> cases hd : decide (x = y) <;> simp [hd] at h1 ⊢
  | halt hh w' => rw [hr] at h; simp [Result.andThen] at h

theorem common_le (L M : List Ent) : common L M ≤ M.length := by
  induction L generalizing M with
  | nil => simp [common]
  | cons x L ih =>
    cases M with
    | nil => simp [common]
    | cons y M => simp only [common]; split <;> simp; exact ih M
theorem common_le' (L M : List Ent) : common L M ≤ L.length := by
  induction L generalizing M with
  | nil => simp [common]
  | cons x L ih =>
    cases M with
    | nil => simp [common]
    | cons y M => simp only [common]; split <;> simp; exact ih M
theorem may_parts {s : Sv} (h : mayB s = true) : 0 ≤ s.term ∧ s.term ≤ 1152921504606846976 ∧ -1 ≤ s.vote ∧ s.vote ≤ 6 ∧ s.log.length ≤ 4096 ∧ s.log.all entOk = true := by
  simp only [mayB, Bool.and_eq_true, decide_eq_true_eq] at h
  obtain ⟨⟨⟨⟨⟨h1, h2⟩, h3⟩, h4⟩, h5⟩, h6⟩ := h
  exact ⟨h1, h2, h3, h4, h5, h6⟩
theorem entOk_parts {x : Ent} (h : entOk x = true) : 1 ≤ x.term ∧ x.term ≤ 1152921504606846976 ∧ x.data.size ≤ 65536 := by
  simp only [entOk, Bool.and_eq_true, decide_eq_true_eq] at h
  exact ⟨h.1.1, h.1.2, h.2⟩
theorem entsBytes_le (L : List Ent) (h : ∀ x ∈ L, entOk x = true) : (entsBytes L).length ≤ L.length * 70000 := by
  induction L with
  | nil => simp [entsBytes]
  | cons x L ih =>
    have h1 := ih (fun y hy => h y (List.mem_cons_of_mem _ hy))
    obtain ⟨h2, h3, h4⟩ := entOk_parts (h x (List.mem_cons_self ..))
    have h5 := uint_le x.term.toNat (by omega)
    have h6 := uint_le x.data.size (by omega)
    have h7 : x.data.data.toList.length = x.data.size := by rw [Array.length_toList]; rfl
    rw [entsBytes_cons, List.length_append, List.length_cons]
    simp only [Ent.bytes, List.length_append]
    omega
theorem below_undrew' {w w2 : World} {k : Nat} (h : Below (w.drewN k).heap.size (w.drewN k) w2) : Below w.heap.size w w2 := ⟨h.os, h.tape, h.output, h.size, h.block⟩
set_option maxRecDepth 10000 in
set_option maxHeartbeats 1000000 in
theorem record_calls (v u : Value) (was s : Sv) (w : World) (hv : RdE w.heap.size w v was.log) (hu : RdE w.heap.size w u s.log) (hs : mayB s = true) :
    Calls Tryz.prog 30 #[.agg #[.int .i64 was.term, .int .i64 was.vote, v], .agg #[.int .i64 s.term, .int .i64 s.vote, u]] w fun e w' => ∃ v', e = .returned v' ∧ OwnB w' w.heap.size v' (record was s) ∧ Below w.heap.size w w' := by
  obtain ⟨a, cap, rfl, hcap, hcap2⟩ := hv.shape
  obtain ⟨a', cap', rfl, hcap', hcap2'⟩ := hu.shape
  have hlen : was.log.length ≤ 9223372036854775807 := by unfold maxLen at hcap2; omega
  have hlen' : s.log.length ≤ 9223372036854775807 := by unfold maxLen at hcap2'; omega
  have hx0 : Ext [] w ((w.alloc (.cells #[.int .i64 was.term, .int .i64 was.vote, .slice a was.log.length cap] 27)).alloc (.cells #[.int .i64 s.term, .int .i64 s.vote, .slice a' s.log.length cap'] 27)) := ((Ext.refl [] w).alloc _).alloc _
  have c1 : ((w.alloc (.cells #[.int .i64 was.term, .int .i64 was.vote, .slice a was.log.length cap] 27)).alloc (.cells #[.int .i64 s.term, .int .i64 s.vote, .slice a' s.log.length cap'] 27)).cell? ⟨w.heap.size, 2, none⟩ = some (.slice a was.log.length cap) := by simp [go_sem]
  have d0 : ((w.alloc (.cells #[.int .i64 was.term, .int .i64 was.vote, .slice a was.log.length cap] 27)).alloc (.cells #[.int .i64 s.term, .int .i64 s.vote, .slice a' s.log.length cap'] 27)).cell? ⟨w.heap.size + 1, 0, none⟩ = some (.int .i64 s.term) := by simp [go_sem]
  have d1 : ((w.alloc (.cells #[.int .i64 was.term, .int .i64 was.vote, .slice a was.log.length cap] 27)).alloc (.cells #[.int .i64 s.term, .int .i64 s.vote, .slice a' s.log.length cap'] 27)).cell? ⟨w.heap.size + 1, 1, none⟩ = some (.int .i64 s.vote) := by simp [go_sem]
  have d2 : ((w.alloc (.cells #[.int .i64 was.term, .int .i64 was.vote, .slice a was.log.length cap] 27)).alloc (.cells #[.int .i64 s.term, .int .i64 s.vote, .slice a' s.log.length cap'] 27)).cell? ⟨w.heap.size + 1, 2, none⟩ = some (.slice a' s.log.length cap') := by simp [go_sem]
  have hBl : Below w.heap.size w ((w.alloc (.cells #[.int .i64 was.term, .int .i64 was.vote, .slice a was.log.length cap] 27)).alloc (.cells #[.int .i64 s.term, .int .i64 s.vote, .slice a' s.log.length cap'] 27)) := ((Below.refl _ _).alloc (Nat.le_refl _) _).alloc (by simp) _
  have hz : ((w.alloc (.cells #[.int .i64 was.term, .int .i64 was.vote, .slice a was.log.length cap] 27)).alloc (.cells #[.int .i64 s.term, .int .i64 s.vote, .slice a' s.log.length cap'] 27)).heap.size = w.heap.size + 2 := by simp
  have hv1 := hv.ext hx0
  have hu1 := hu.ext hx0
  go_enter Tryz.func30, Tryz.ntmps30
  go_upto_block 0 with fail
  generalize (w.alloc (.cells #[.int .i64 was.term, .int .i64 was.vote, .slice a was.log.length cap] 27)).alloc (.cells #[.int .i64 s.term, .int .i64 s.vote, .slice a' s.log.length cap'] 27) = W at hx0 c1 d0 d1 d2 hBl hv1 hu1 hz ⊢
  have HZ := Lib.hid hz
  clear hz
  go_cut [5] (fun c wc => c = .int .i64 (common was.log s.log : Nat) ∧ ∃ nq, wc = W.drewN nq)
  case first =>
    go_wp2_with fail
    go_loopw [5] (fun c wr => ∃ k nq : Nat, k ≤ was.log.length ∧ k ≤ s.log.length ∧ c = .int .i64 k ∧ wr = W.drewN nq ∧ Hid (common was.log s.log = k + common (was.log.drop k) (s.log.drop k))) (fun c wr => (was.log.length - intOf c).toNat)
    case atStart => exact ⟨0, 0, by omega, by omega, rfl, rfl, Lib.hid (by simp)⟩
    case round =>
      obtain ⟨k, nq, hk, hk', rfl, rfl, hcm⟩ := hrel
      by_cases hk2 : k < was.log.length
      case neg =>
        have hd : decide ((k : Int) < (was.log.length : Int)) = false := by rw [decide_eq_false_iff_not]; omega
        have he := common_end1 (M := s.log) (show was.log.length ≤ k by omega)
        have HC := Lib.hid (hcm.out.trans (by rw [he]))
        clear he
        go_wp2_with fail
        go_quiet (fail)
        go_wp2_with fail
        go_meet
        exact ⟨by rw [HC.out]; rfl, _, drewN_drewN _ _ _⟩
      by_cases hk3 : k < s.log.length
      case neg =>
        have hd : decide ((k : Int) < (was.log.length : Int)) = true := by rw [decide_eq_true_iff]; omega
        have hd' : decide ((k : Int) < (s.log.length : Int)) = false := by rw [decide_eq_false_iff_not]; omega
        have he := common_end2 (L := was.log) (show s.log.length ≤ k by omega)
        have HC := Lib.hid (hcm.out.trans (by rw [he]))
        clear he
        go_wp2_with fail
        go_quiet (fail)
        go_wp2_with fail
        go_meet
        exact ⟨by rw [HC.out]; rfl, _, drewN_drewN _ _ _⟩
      have hd : decide ((k : Int) < (was.log.length : Int)) = true := by rw [decide_eq_true_iff]; omega
      have hd' : decide ((k : Int) < (s.log.length : Int)) = true := by rw [decide_eq_true_iff]; omega
      obtain ⟨b, off, rfl, _, _, hcell⟩ := RdE.cell hv1 (by omega)
      obtain ⟨b', off', rfl, _, _, hcell'⟩ := RdE.cell hu1 (by omega)
      have e0 := (hcell k hk2).1
      have e1 := (hcell k hk2).2
      have f0 := (hcell' k hk3).1
      have f1 := (hcell' k hk3).2
      clear hcell hcell'
      generalize hx : was.log[k] = x at e0 e1
      generalize hy : s.log[k] = y at f0 f1
      by_cases hxy : x = y
      · have hne : ∀ W, (binOp .eql 29 (.agg #[.int .i64 x.term, .string x.data]) (.agg #[.int .i64 y.term, .string y.data])).run Tryz.prog W = .ok (.bool true) W := fun W => by rw [eql29]; simp [hxy]
        have he := common_step hk2 hk3 (by rw [hx, hy, hxy])
        have HC : Hid (common was.log s.log = (k + 1) + common (was.log.drop (k + 1)) (s.log.drop (k + 1))) := Lib.hid (by rw [hcm.out, he]; omega)
        clear he hx hy hxy
        go_wp2_with fail
        go_quiet (fail)
        go_wp2_with fail
        go_roundw
        case rel => exact ⟨k + 1, _, by omega, by omega, by go_num, rfl, HC⟩
        case measure => simp [intOf]; omega
      · have hne : ∀ W, (binOp .eql 29 (.agg #[.int .i64 x.term, .string x.data]) (.agg #[.int .i64 y.term, .string y.data])).run Tryz.prog W = .ok (.bool false) W := fun W => by rw [eql29]; simp [hxy]
        have he := common_stop hk2 hk3 (by rw [hx, hy]; exact hxy)
        have HC := Lib.hid (hcm.out.trans (by rw [he]))
        clear he hx hy hxy
        go_wp2_with fail
        go_quiet (fail)
        go_wp2_with fail
        go_meet
        exact ⟨by rw [HC.out]; rfl, _, drewN_drewN _ _ _⟩
  case rest =>
    obtain ⟨rfl, nq, rfl⟩ := hcut
    have hcle := common_le was.log s.log
    generalize hC : common was.log s.log = c at hcle ⊢
    obtain ⟨hT0, hT1, hV0, hV1, hL4, hall⟩ := may_parts hs
    obtain ⟨n, hn⟩ := Int.eq_ofNat_of_zero_le hT0
    rw [hn] at d0
    have hHR : Hid (record was s = uint n ++ (uint (zig s.vote) ++ (uint c ++ (uint (s.log.length - c) ++ entsBytes (s.log.drop c))))) := Lib.hid (by
      unfold record recBytes
      rw [hC, hn, List.length_drop, Int.toNat_natCast])
    have hnb : n ≤ 1152921504606846976 := by omega
    have hun := uint_le n hnb
    have huz := uint_le (zig s.vote) (by unfold zig; split <;> omega)
    have huc := uint_le c (by omega)
    have hul := uint_le (s.log.length - c) (by omega)
    clear hC hn hs c1 hv1 hv hu
    go_wp2_with fail
    refine (PutUint_calls n hnb _).mono ?_
    rintro e w1 ⟨v1, rfl, ho1, hb1⟩
    have hB1 : Below W.heap.size W w1 := below_undrew' hb1
    have ho1' : OwnB w1 W.heap.size v1 (uint n) := ho1
    clear ho1 hb1
    have hz1 := hB1.size
    have q1 : w1.cell? ⟨w.heap.size + 1, 1, none⟩ = some (.int .i64 s.vote) := (hB1.cell (p := ⟨w.heap.size + 1, 1, none⟩) (by show w.heap.size + 1 < W.heap.size; rw [HZ.out]; omega)).trans d1
    go_wp2_with fail
    refine (PutInt_calls s.vote hV0 hV1 _).mono ?_
    rintro e w2 ⟨v2, rfl, ho2, hb2⟩
    have hz2 := hb2.size
    have hB2 : Below W.heap.size W w2 := hB1.trans (hb2.mono hz1)
    go_wp2_with (at_builtin; refine wpList_app _ rfl _ _ 30 rfl W.heap.size _ _ rfl (ho1'.belowS hb2) _ _ rfl (RdB.src ho2.rd) (by omega) (by omega) ?_; intro v3 w3 ho3 hg3)
    have hz3 := hg3.size
    have hB3 : Below W.heap.size W w3 := hB2.grown hg3 (by omega) (fun j hj => (OwnB.lt ho1' j hj).1)
    clear hg3 ho2 hb2 hB1 hB2
    refine (PutUint_calls c (by omega) _).mono ?_
    rintro e w4 ⟨v4, rfl, ho4, hb4⟩
    have hz4 := hb4.size
    have hB4 : Below W.heap.size W w4 := hB3.trans (hb4.mono (by omega))
    have q2 : w4.cell? ⟨w.heap.size + 1, 2, none⟩ = some (.slice a' s.log.length cap') := (hB4.cell (p := ⟨w.heap.size + 1, 2, none⟩) (by show w.heap.size + 1 < W.heap.size; rw [HZ.out]; omega)).trans d2
    go_wp2_with (at_builtin; refine wpList_app _ rfl _ _ 30 rfl W.heap.size _ _ rfl (ho3.belowS hb4) _ _ rfl (RdB.src ho4.rd) (by simp only [List.length_append]; omega) (by omega) ?_; intro v5 w5 ho5 hg5; have q3 : w5.cell? ⟨w.heap.size + 1, 2, none⟩ = some (.slice a' s.log.length cap') := ((hB4.grown hg5 (by omega) (fun j hj => (OwnB.lt ho3 j hj).1)).cell (p := ⟨w.heap.size + 1, 2, none⟩) (by show w.heap.size + 1 < W.heap.size; rw [HZ.out]; omega)).trans d2)
    have hz5 := hg5.size
    have hB5 : Below W.heap.size W w5 := hB4.grown hg5 (by omega) (fun j hj => (OwnB.lt ho3 j hj).1)
    clear hg5 ho4 hb4 hB3 hB4
    rw [show ((s.log.length : Int) - (c : Int)) = ((s.log.length - c : Nat) : Int) by omega]
    refine (PutUint_calls (s.log.length - c) (by omega) _).mono ?_
    rintro e w6 ⟨v6, rfl, ho6, hb6⟩
    have hz6 := hb6.size
    obtain ⟨a2, c2, hsl, hu2⟩ := RdE.slice_l rfl hu1 c hcle
    have hsl' := fun W' => hsl (c : Int) rfl W'
    clear hsl q1 q2 q3
    go_wp2_with (at_builtin; refine wpList_app _ rfl _ _ 30 rfl W.heap.size _ _ rfl (ho5.belowS hb6) _ _ rfl (RdB.src ho6.rd) (by simp only [List.length_append]; omega) (by omega) ?_; intro v7 w7 ho7 hg7; have q4 : w7.cell? ⟨w.heap.size + 1, 2, none⟩ = some (.slice a' s.log.length cap') := (((hB5.trans (hb6.mono (by omega))).grown hg7 (by omega) (fun j hj => (OwnB.lt ho5 j hj).1)).cell (p := ⟨w.heap.size + 1, 2, none⟩) (by show w.heap.size + 1 < W.heap.size; rw [HZ.out]; omega)).trans d2)
    have hz7 := hg7.size
    have hB7 : Below W.heap.size W w7 := (hB5.trans (hb6.mono (by omega))).grown hg7 (by omega) (fun j hj => (OwnB.lt ho5 j hj).1)
    clear hg7 ho6 hb6 hB5 q4 hsl'
    have hesl : (s.log.drop c).length = s.log.length - c := by simp
    have hes : ∀ x ∈ s.log.drop c, entOk x = true := fun x hx => List.all_eq_true.1 hall x (List.mem_of_mem_drop hx)
    generalize hE : s.log.drop c = es at hu2 hesl hes
    have HE := Lib.hid hE
    have HR2 : Hid (record was s = uint n ++ (uint (zig s.vote) ++ (uint c ++ (uint (s.log.length - c) ++ entsBytes es)))) := Lib.hid (by rw [hHR.out, hE])
    clear hE hHR
    generalize hl : s.log.length - c = m at hesl hu2 ho7 HR2 ⊢
    have hm : m ≤ 4096 := by omega
    subst hesl
    have hul2 := uint_le es.length (by omega)
    have hP : (uint n ++ uint (zig s.vote) ++ uint c ++ uint es.length).length ≤ 40 := by simp only [List.length_append]; omega
    have HR3 : Hid (record was s = (uint n ++ uint (zig s.vote) ++ uint c ++ uint es.length) ++ entsBytes es) := Lib.hid (by rw [HR2.out]; simp only [List.append_assoc])
    generalize uint n ++ uint (zig s.vote) ++ uint c ++ uint es.length = P at ho7 hP HR3
    clear HR2 hun huz huc hul hul2
    go_loopw [6, 8, 64] (fun b _ i wr => ∃ k : Nat, k ≤ es.length ∧ i = .int .i64 k ∧ OwnB wr W.heap.size b (P ++ entsBytes (es.take k)) ∧ Below W.heap.size W wr) (fun _ _ i wr => (es.length - intOf i).toNat)
    case atStart => exact ⟨0, by omega, rfl, by simpa [entsBytes] using ho7, hB7⟩
    case round =>
      obtain ⟨k, hk, rfl, ho, hB⟩ := hrel
      have hz := hB.size
      by_cases hk2 : k < es.length
      · have hur : RdE W.heap.size wr (.slice a2 es.length c2) es := (hu2.mono hx0.size).below hB
        obtain ⟨b, off, rfl, _, hblt, hcell⟩ := RdE.cell hur (by omega)
        have e0 := (hcell k hk2).1
        have e1 := (hcell k hk2).2
        clear hcell
        have hok := entOk_parts (hes es[k] (List.getElem_mem hk2))
        have hst : entsBytes (es.take (k + 1)) = entsBytes (es.take k) ++ es[k].bytes := by
          rw [List.take_succ_eq_append_getElem hk2, entsBytes_snoc]
        have hlen2 := entsBytes_le (es.take k) (fun x hx => hes x (List.mem_of_mem_take hx))
        rw [List.length_take_of_le (by omega)] at hlen2
        generalize hx : es[k] = x at e0 e1 hok hst
        have HX := Lib.hid hx
        clear hx
        obtain ⟨hx1, hx2, hx3⟩ := hok
        obtain ⟨t, ht⟩ := Int.eq_ofNat_of_zero_le (show 0 ≤ x.term by omega)
        rw [ht] at e0 hx1 hx2
        have HS : Hid (entsBytes (es.take (k + 1)) = entsBytes (es.take k) ++ (uint t ++ (uint x.data.size ++ x.data.data.toList))) := Lib.hid (by rw [hst]; simp [Ent.bytes, ht])
        clear hst ht
        have hut := uint_le t (by omega)
        have hud := uint_le x.data.size (by omega)
        have hds : x.data.data.toList.length = x.data.size := by rw [Array.length_toList]; rfl
        have HD := Lib.hid hds
        clear hds
        go_wp2_with fail
        refine (PutUint_calls t (by omega) _).mono ?_
        rintro e x1 ⟨y1, rfl, p1, b1⟩
        have s1 := b1.size
        rw [World.size_alloc] at s1 b1 p1
        have f1 : x1.cell? ⟨wr.heap.size, 1, none⟩ = some (.string x.data) := (b1.cell (p := ⟨wr.heap.size, 1, none⟩) (Nat.lt_succ_self _)).trans (by simp [go_sem])
        have ho1 : OwnB x1 W.heap.size u6 (P ++ entsBytes (es.take k)) := (ho.alloc _).ext (Ext.of_below (by rw [World.size_alloc]; exact b1))
        have B1 : Below W.heap.size W x1 := (hB.alloc hz _).trans (b1.mono (by omega))
        go_wp2_with (at_builtin; refine wpList_app _ rfl _ _ 30 rfl W.heap.size _ _ rfl ho1 _ _ rfl (RdB.src p1.rd) (by simp only [List.length_append]; omega) (by omega) ?_; intro y2 x2 p2 g2; have f2 : x2.cell? ⟨wr.heap.size, 1, none⟩ = some (.string x.data) := g2.cell f1 (by intro hh; have := OwnB.lt ho wr.heap.size hh.symm; omega))
        have s2 := g2.size
        have B2 : Below W.heap.size W x2 := B1.grown g2 (by omega) (fun j hj => (OwnB.lt ho1 j hj).1)
        refine (PutText_calls x.data (by omega) _).mono ?_
        rintro e x3 ⟨y3, rfl, p3, b3⟩
        have s3 := b3.size
        go_wp2_with (at_builtin; refine wpList_app _ rfl _ _ 30 rfl W.heap.size _ _ rfl (p2.belowS b3) _ _ rfl (RdB.src p3.rd) (by simp only [List.length_append, HD.out]; omega) (by omega) ?_; intro y4 x4 p4 g4)
        go_roundw
        case rel =>
          refine ⟨k + 1, by omega, by go_num, ?_, (B2.trans (b3.mono (by omega))).grown g4 (by omega) (fun j hj => (OwnB.lt p2 j hj).1)⟩
          rw [HS.out]
          simpa only [List.append_assoc] using p4
        case measure => simp [intOf]; omega
      · obtain rfl : k = es.length := by omega
        go_wp2
        go_ret
        rw [List.take_length] at ho
        exact ⟨u6, rfl, by rw [HR3.out]; exact ho.lower (by rw [HZ.out]; omega), hBl.trans (hB.mono (by rw [HZ.out]; omega))⟩
end Go.Proofs.YtipbfmalacnmkaaGreat
