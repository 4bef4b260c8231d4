/- What next returns: something that may be kept, at most 40 entries longer; and what long says. -/
import Derived.Test.YtipbfmalacnmkaaGreatKeep2
import Derived.Deep.CutBlock
import Derived.Deep.DrawnRows
namespace Go.Proofs.YtipbfmalacnmkaaGreat
open Go.RowKit Go.Shelf
attribute [local go_sem ↓] Go.wp_at_zero Go.wp_at_succ

def NextPost (w : World) (n : Nat) (e : Ending) (w' : World) : Prop :=
  ∃ (s : Sv) (v : Value), e = .returned (.agg #[.int .i64 s.term, .int .i64 s.vote, v]) ∧ RdE w'.heap.size w' v s.log ∧ mayB s = true ∧ s.log.length ≤ n ∧ Below w.heap.size w w'
/-- Behind the switch: something that may be kept lies in the first box. -/
def NextMid (w : World) (n : Nat) (wc : World) : Prop :=
  ∃ (s : Sv) (v : Value), wc.heap[w.heap.size]? = some (.cells #[.int .i64 s.term, .int .i64 s.vote, v] 27 (0, 0)) ∧ RdE wc.heap.size wc v s.log ∧ mayB s = true ∧ s.log.length ≤ n ∧
    wc.heap[w.heap.size + 1 + 1]? = some (.cells #[.int .i64 0, .int .i64 0, .slice none 0 0] 27 (0, 0)) ∧ Below w.heap.size w wc
def Num1 (v : Value) : Prop := ∃ T : Int, v = .int .i64 T ∧ 1 ≤ T ∧ T ≤ 1000
theorem u64_nonneg (t : Int) : 0 ≤ IntKind.u64.wrap t := by
  unfold IntKind.wrap
  simp [IntKind.signed, IntKind.bits]
  omega
theorem num1_of (term : Int) : Num1 (.int .i64 (wrap64 (1 + wrap64 ((IntKind.u64.wrap term).tmod 1000)))) := by
  have h := u64_nonneg term
  generalize IntKind.u64.wrap term = u at h
  rw [Int.tmod_eq_emod_of_nonneg h]
  have h1 : wrap64 (u % 1000) = u % 1000 := IntWalk.wrap64_in _ (by omega)
  have h2 : wrap64 (1 + u % 1000) = 1 + u % 1000 := IntWalk.wrap64_in _ (by omega)
  rw [h1, h2]
  exact ⟨_, rfl, by omega, by omega⟩

theorem row56 {w : World} {z : Nat} {a b c d e : Value} (r : w.heap[z]? = some (.cells #[a, b, c, d, e] 56 (0, 0))) : w.cell? ⟨z, 0, none⟩ = some a ∧ w.cell? ⟨z, 1, none⟩ = some b ∧ w.cell? ⟨z, 2, none⟩ = some c ∧ w.cell? ⟨z, 3, none⟩ = some d ∧ w.cell? ⟨z, 4, none⟩ = some e :=
  ⟨by rw [cell_of_row _ _ _ _ _ _ r]; rfl, by rw [cell_of_row _ _ _ _ _ _ r]; rfl, by rw [cell_of_row _ _ _ _ _ _ r]; rfl, by rw [cell_of_row _ _ _ _ _ _ r]; rfl, by rw [cell_of_row _ _ _ _ _ _ r]; rfl⟩
theorem row3_other {w : World} {z k : Nat} {a b c : Value} (h : k ≠ z) : (((w.setCell ⟨z, 0, none⟩ a).setCell ⟨z, 1, none⟩ b).setCell ⟨z, 2, none⟩ c).heap[k]? = w.heap[k]? := by
  rw [Below.heap_setCell _ ⟨z, 2, none⟩ _ _ h, Below.heap_setCell _ ⟨z, 1, none⟩ _ _ h, Below.heap_setCell _ ⟨z, 0, none⟩ _ _ h]
theorem heap_new1 (w : World) (a b : Obj) : ((w.alloc a).alloc b).heap[w.heap.size + 1]? = some b := by
  have := heap_alloc_new (w.alloc a) b
  rwa [World.size_alloc] at this
theorem heap_new2 (w : World) (a b c : Obj) : (((w.alloc a).alloc b).alloc c).heap[w.heap.size + 1 + 1]? = some c := by
  have := heap_alloc_new ((w.alloc a).alloc b) c
  rwa [World.size_alloc, World.size_alloc] at this
theorem cut_of (n : Int) (len : Nat) (hl : len ≤ 4096) : ∃ j : Nat, j ≤ len ∧ Hid (wrap64 ((IntKind.u64.wrap n).tmod ((len : Int) + 1)) = (j : Int)) := by
  have h := u64_nonneg n
  generalize IntKind.u64.wrap n = u at h
  rw [Int.tmod_eq_emod_of_nonneg h]
  have h1 := Int.emod_nonneg u (show (len : Int) + 1 ≠ 0 by omega)
  have h2 := Int.emod_lt_of_pos u (show 0 < (len : Int) + 1 by omega)
  refine ⟨(u % ((len : Int) + 1)).toNat, by omega, Lib.hid ?_⟩
  rw [IntWalk.wrap64_in _ (by omega), Int.toNat_of_nonneg h1]
theorem vote_of (n : Int) : -1 ≤ wrap64 (wrap64 ((IntKind.u64.wrap n).tmod 8) - 1) ∧ wrap64 (wrap64 ((IntKind.u64.wrap n).tmod 8) - 1) ≤ 6 := by
  have h := u64_nonneg n
  generalize IntKind.u64.wrap n = u at h
  rw [Int.tmod_eq_emod_of_nonneg h]
  have h1 : wrap64 (u % 8) = u % 8 := IntWalk.wrap64_in _ (by omega)
  have h2 : wrap64 (u % 8 - 1) = u % 8 - 1 := IntWalk.wrap64_in _ (by omega)
  rw [h1, h2]
  omega
theorem data50 (d : ByteArray) : ∃ dd : ByteArray, dd.size ≤ 50 ∧ (((d.size : Int) < 50 ∧ (if (d.size : Int) < 50 then (d.size : Int) else 50) = (d.size : Int) ∧ ∀ W, (Instr.slice 9 (.string d) none (some (.int .i64 (d.size : Int))) none).run Tryz.prog W = .ok (.string dd) W) ∨
    (¬ (d.size : Int) < 50 ∧ (if (d.size : Int) < 50 then (d.size : Int) else 50) = 50 ∧ ∀ W, (Instr.slice 9 (.string d) none (some (.int .i64 50)) none).run Tryz.prog W = .ok (.string dd) W)) := by
  by_cases h : (d.size : Int) < 50
  · refine ⟨d.extract 0 (d.size : Int).toNat, ?_, .inl ⟨h, if_pos h, fun W => run_slice_string_h W 9 _ Tryz.underlying9 .i64 _ (by omega) (by omega)⟩⟩
    rw [ByteArray.size_extract]
    omega
  · refine ⟨d.extract 0 (50 : Int).toNat, ?_, .inr ⟨h, if_neg h, fun W => run_slice_string_h W 9 _ Tryz.underlying9 .i64 _ (by omega) (by omega)⟩⟩
    rw [ByteArray.size_extract]
    omega
/-- At the head of a round of the loop. -/
def NextLoop (w : World) (s : Sv) (xr : Obj) (k : Nat) (wr : World) : Prop :=
  ∃ (L : List Ent) (lv : Value), wr.heap[w.heap.size]? = some (.cells #[.int .i64 s.term, .int .i64 s.vote, lv] 27 (0, 0)) ∧ OwnE wr (w.heap.size + 1 + 1 + 1) lv L ∧ mayB ⟨s.term, s.vote, L⟩ = true ∧ L.length ≤ s.log.length + k ∧
    wr.heap[w.heap.size + 1]? = some xr ∧ wr.heap[w.heap.size + 1 + 1]? = some (.cells #[.int .i64 0, .int .i64 0, .slice none 0 0] 27 (0, 0)) ∧ Below w.heap.size w wr ∧ w.heap.size + 1 + 1 + 1 ≤ wr.heap.size
theorem own_grown {w w' : World} {base : Nat} {v : Value} {L : List Ent} (h : OwnE w base v L) (hb : base ≤ w.heap.size) (hg : w.grownBy w' v.ownBlock) : Below base w w' := (Below.refl _ _).grown hg hb (fun k hk => (OwnE.lt h k hk).1)
theorem may_snoc {s : Sv} (h : mayB s = true) (x : Ent) (hl : s.log.length + 1 ≤ 4096) (h1 : 1 ≤ x.term) (h2 : x.term ≤ 1000) (h3 : x.data.size ≤ 65536) : mayB ⟨s.term, s.vote, s.log ++ [x]⟩ = true := by
  obtain ⟨p1, p2, p3, p4, p5, p6⟩ := may_parts h
  have hx : entOk x = true := by unfold entOk; simp; omega
  unfold mayB
  simp only [List.length_append, List.length_cons, List.length_nil, List.all_append, p6, List.all_cons, hx, List.all_nil, Bool.and_true, Bool.and_eq_true, decide_eq_true_eq]
  omega
theorem may_take {s : Sv} (h : mayB s = true) (j : Nat) : mayB ⟨s.term, s.vote, s.log.take j⟩ = true := by
  obtain ⟨p1, p2, p3, p4, p5, p6⟩ := may_parts h
  have ha : (s.log.take j).all entOk = true := List.all_eq_true.2 (fun x hx => List.all_eq_true.1 p6 x (List.mem_of_mem_take hx))
  have hl : (s.log.take j).length ≤ s.log.length := by rw [List.length_take]; omega
  unfold mayB
  simp only [ha, Bool.and_true, Bool.and_eq_true, decide_eq_true_eq]
  omega
theorem may_head {s : Sv} (h : mayB s = true) (T V : Int) (h1 : 0 ≤ T) (h2 : T ≤ 1152921504606846976) (h3 : -1 ≤ V) (h4 : V ≤ 6) : mayB ⟨T, V, s.log⟩ = true := by
  obtain ⟨p1, p2, p3, p4, p5, p6⟩ := may_parts h
  unfold mayB
  simp only [p6, Bool.and_true, Bool.and_eq_true, decide_eq_true_eq]
  omega
set_option maxRecDepth 10000 in
set_option maxHeartbeats 2000000 in
theorem Next_calls (s : Sv) (lv : Value) (dn : Int) (term n : Int) (data : ByteArray) (kv : Value) (N : Nat) (w : World) (hlv : RdE w.heap.size w lv s.log) (hs : mayB s = true) (hN : s.log.length ≤ N) (hN2 : N ≤ 4000) (hdata : data.size ≤ 3000)
    (hkv : ∃ a l c, kv = .slice a l c) :
    Calls Tryz.prog 24 #[.agg #[.int .i64 s.term, .int .i64 s.vote, lv], .agg #[.int .u8 dn, .int .i64 term, .string data, .int .i64 n, kv]] w fun e w' => NextPost w (N + 40) e w' := by
  obtain ⟨ak, lk, ck, rfl⟩ := hkv
  obtain ⟨al, cl, rfl, _, _⟩ := hlv.shape
  obtain ⟨W1, hW1⟩ : ∃ W1, W1 = (((w.alloc (.cells #[.int .i64 s.term, .int .i64 s.vote, .slice al s.log.length cl] 27)).alloc (.cells #[.int .u8 dn, .int .i64 term, .string data, .int .i64 n, .slice ak lk ck] 56)).alloc (.cells #[.int .i64 0, .int .i64 0, .slice none 0 0] 27)) := ⟨_, rfl⟩
  have X1 : Ext [] w W1 := by rw [hW1]; exact (((Ext.refl [] w).alloc _).alloc _).alloc _
  have z1 : W1.heap.size = w.heap.size + 1 + 1 + 1 := by rw [hW1]; simp only [World.size_alloc]
  have r0 : W1.heap[w.heap.size]? = some (.cells #[.int .i64 s.term, .int .i64 s.vote, .slice al s.log.length cl] 27 (0, 0)) := by rw [hW1]; exact heap_push (heap_push (heap_alloc_new w _) _) _
  have r1 : W1.heap[w.heap.size + 1]? = some (.cells #[.int .u8 dn, .int .i64 term, .string data, .int .i64 n, .slice ak lk ck] 56 (0, 0)) := by rw [hW1]; exact heap_push (heap_new1 w _ _) _
  have r2 : W1.heap[w.heap.size + 1 + 1]? = some (.cells #[.int .i64 0, .int .i64 0, .slice none 0 0] 27 (0, 0)) := by rw [hW1]; exact heap_new2 w _ _ _
  have hcp := Copy_calls s.term s.vote (.slice al s.log.length cl) s.log (by omega) W1 (RdE.mono (RdE.ext hlv X1) X1.size)
  have HCP := Lib.hid hcp
  have HS := Lib.hid hs
  clear hcp hs
  go_enter Tryz.func24, Tryz.ntmps24
  go_wp2_with fail
  rw [← hW1]
  clear hW1
  refine HCP.out.mono ?_
  rintro e w3 ⟨v3, rfl, o3, b3⟩
  obtain ⟨a3, c3, rfl, _, _⟩ := o3.rd.shape
  have x3 : Ext [] W1 w3 := Ext.of_below b3
  have q0 := x3.heap r0
  have q1 := x3.heap r1
  have q2 := x3.heap r2
  have hz3 := b3.size
  obtain ⟨y0, y1, y2, y3, y4, y5⟩ := rowFacts q0
  go_upto_region 2 with fail
  have k0 := row3 q0 (.int .i64 s.term) (.int .i64 s.vote) (.slice a3 s.log.length c3)
  have ho4 : OwnE (((w3.setCell ⟨w.heap.size, 0, none⟩ (.int .i64 s.term)).setCell ⟨w.heap.size, 1, none⟩ (.int .i64 s.vote)).setCell ⟨w.heap.size, 2, none⟩ (.slice a3 s.log.length c3)) (w.heap.size + 1 + 1 + 1) (.slice a3 s.log.length c3) s.log :=
    ((((o3.lower (base' := w.heap.size + 1 + 1 + 1) (by omega)).setBelow (by omega) _).setBelow (by omega) _).setBelow (by omega) _)
  have X4 : Below w.heap.size w (((w3.setCell ⟨w.heap.size, 0, none⟩ (.int .i64 s.term)).setCell ⟨w.heap.size, 1, none⟩ (.int .i64 s.vote)).setCell ⟨w.heap.size, 2, none⟩ (.slice a3 s.log.length c3)) :=
    (((((X1.trans x3).below (Nat.le_refl _) (by simp)).setCell (p := ⟨w.heap.size, 0, none⟩) (by simp) _).setCell (p := ⟨w.heap.size, 1, none⟩) (by simp) _).setCell (p := ⟨w.heap.size, 2, none⟩) (by simp) _)
  have k1 : (((w3.setCell ⟨w.heap.size, 0, none⟩ (.int .i64 s.term)).setCell ⟨w.heap.size, 1, none⟩ (.int .i64 s.vote)).setCell ⟨w.heap.size, 2, none⟩ (.slice a3 s.log.length c3)).heap[w.heap.size + 1]? = some (.cells #[.int .u8 dn, .int .i64 term, .string data, .int .i64 n, .slice ak lk ck] 56 (0, 0)) := by
    rw [row3_other (by omega)]; exact q1
  have k2 : (((w3.setCell ⟨w.heap.size, 0, none⟩ (.int .i64 s.term)).setCell ⟨w.heap.size, 1, none⟩ (.int .i64 s.vote)).setCell ⟨w.heap.size, 2, none⟩ (.slice a3 s.log.length c3)).heap[w.heap.size + 1 + 1]? = some (.cells #[.int .i64 0, .int .i64 0, .slice none 0 0] 27 (0, 0)) := by
    rw [row3_other (by omega)]; exact q2
  generalize ((w3.setCell ⟨w.heap.size, 0, none⟩ (.int .i64 s.term)).setCell ⟨w.heap.size, 1, none⟩ (.int .i64 s.vote)).setCell ⟨w.heap.size, 2, none⟩ (.slice a3 s.log.length c3) = w4 at k0 k1 k2 ho4 X4 ⊢
  clear y0 y1 y2 y3 y4 y5 q0 q1 q2 r0 r1 r2
  obtain ⟨y0, y1, y2, y3, y4, y5⟩ := rowFacts k0
  obtain ⟨d0, d1, d2, d3, _⟩ := row56 k1
  go_cut [5] (fun s5 wc => Num1 s5 ∧ w4 = wc)
  case first =>
    go_wp2_with fail
    go_meet
    exact ⟨num1_of term, rfl⟩
  case rest =>
    obtain ⟨⟨T, rfl, hT1, hT2⟩, rfl⟩ := hcut
    have hown : OwnE w4 (w.heap.size + 1 + 1 + 1) (.slice a3 s.log.length c3) s.log := ho4
    have HT := Lib.hid (And.intro hT1 hT2)
    have HOW := Lib.hid hown
    have z4 : w.heap.size + 1 + 1 + 1 ≤ w4.heap.size := by
      have := (Array.getElem?_eq_some_iff.1 k2).1
      omega
    clear ho4 HCP o3 b3 x3 hz3 hown
    go_upto_block 0 with fail
    go_cut [] (fun wc => NextMid w (N + 40) wc)
    case first =>
      have fin0 : ∀ wc T' V', wc.heap[w.heap.size]? = some (.cells #[.int .i64 T', .int .i64 V', .slice a3 s.log.length c3] 27 (0, 0)) → OwnE wc (w.heap.size + 1 + 1 + 1) (.slice a3 s.log.length c3) s.log → wc.heap[w.heap.size + 1 + 1]? = some (.cells #[.int .i64 0, .int .i64 0, .slice none 0 0] 27 (0, 0)) → Below w.heap.size w wc → mayB ⟨T', V', s.log⟩ = true → NextMid w (N + 40) wc :=
        fun wc T' V' h1 h2 h3 h4 h5 => ⟨⟨T', V', s.log⟩, _, h1, h2.rd, h5, by simp only; omega, h3, h4⟩
      have FIN0 := Lib.hid fin0
      clear fin0
      by_cases hd0 : dn = 0
      · subst hd0
        have hent := Src.ent1 w4 ⟨T, data⟩ T data rfl rfl
        have HE := Lib.hid hent
        clear hent
        go_wp2_with (at_builtin; refine wpList_appE _ rfl _ _ rfl (w.heap.size + 1 + 1 + 1) _ s.log rfl (HOW.out.alloc _) _ [⟨T, data⟩] rfl HE.out (by simp only [List.length_cons, List.length_nil]; omega) (by simp only [World.size_alloc]; omega) ?_; intro v5 w5 ho5 hg5; obtain ⟨a5, c5, rfl, _, _⟩ := ho5.rd.shape
                     have b5 := own_grown (HOW.out.alloc (.cells #[.int .i64 T, .string data] 29)) (by simp only [World.size_alloc]; omega) hg5
                     have m0 := (b5.block w.heap.size (by omega)).trans (heap_push k0 (.cells #[.int .i64 T, .string data] 29))
                     have m2 := (b5.block (w.heap.size + 1 + 1) (by omega)).trans (heap_push k2 (.cells #[.int .i64 T, .string data] 29))
                     obtain ⟨e0, e1, e2, e3, e4, e5⟩ := rowFacts m0
                     have HO5 := Lib.hid ho5
                     have hl5 : (s.log ++ [(⟨T, data⟩ : Ent)]).length = s.log.length + 1 := (by simp)
                     rw [hl5]
                     have HL5 := Lib.hid hl5
                     clear hg5 ho5 hl5)
        go_meet
        have mm := may_snoc HS.out (⟨T, data⟩ : Ent) (by omega) (by simp only; omega) (by simp only; omega) (by simp only; omega)
        refine ⟨⟨s.term, s.vote, s.log ++ [⟨T, data⟩]⟩, _, heap_set (o := 2) _ m0, ?_, mm, by simp only [HL5.out]; omega, (Below.heap_setCell _ ⟨w.heap.size, 2, none⟩ _ _ (by show w.heap.size + 1 + 1 ≠ w.heap.size; omega)).trans m2, ?_⟩
        · have := (HO5.out.setBelow (b := w.heap.size) (o := 2) (by omega) (.slice a5 (s.log.length + 1) c5)).rd
          rw [HL5.out] at this
          exact this
        · exact (((X4.alloc (by omega) _).trans (b5.mono (by omega))).setCell (p := ⟨w.heap.size, 2, none⟩) (by simp) _)
      by_cases hd1 : dn = 1
      · subst hd1
        obtain ⟨j, hj, hjn⟩ := cut_of n s.log.length (by omega)
        obtain ⟨a5, c5, hsl, hr5⟩ := RdE.slice_h rfl HOW.out.rd j hj
        have hsl2 := fun W => hsl _ hjn.out W
        clear hsl
        go_upto_region 7 with fail
        go_region
        all_goals
          go_wp2_with fail
          go_meet
          have hr6 : RdE w4.heap.size (w4.drew.setCell ⟨w.heap.size, 2, none⟩ (.slice a5 j c5)) (.slice a5 j c5) (s.log.take j) := Rd.setOther (w := w4.drew) (RdE.ext hr5 ((Ext.refl [] w4).drewN 1)) k0 (by decide)
          have hlj : (s.log.take j).length = j := by rw [List.length_take]; omega
          refine ⟨⟨s.term, s.vote, s.log.take j⟩, _, heap_set (w := w4.drew) (o := 2) _ k0, RdE.mono hr6 (by simp), may_take HS.out j, by simp only; omega, (Below.heap_setCell _ ⟨w.heap.size, 2, none⟩ _ _ (by show w.heap.size + 1 + 1 ≠ w.heap.size; omega)).trans k2, ?_⟩
          exact X4.drew.setCell (p := ⟨w.heap.size, 2, none⟩) (by simp) _
      by_cases hd2 : dn = 2
      · subst hd2
        go_wp2_with fail
        go_meet
        obtain ⟨v1, v2⟩ := vote_of n
        refine FIN0.out _ T (wrap64 (wrap64 ((IntKind.u64.wrap n).tmod 8) - 1)) (heap_set (o := 1) _ (heap_set (o := 0) _ k0)) ((HOW.out.setBelow (by omega) _).setBelow (by omega) _) ?_ ((X4.setCell (p := ⟨w.heap.size, 0, none⟩) (by simp) _).setCell (p := ⟨w.heap.size, 1, none⟩) (by simp) _) (may_head HS.out _ _ (by omega) (by omega) v1 v2)
        rw [Below.heap_setCell _ ⟨w.heap.size, 1, none⟩ _ _ (by show w.heap.size + 1 + 1 ≠ w.heap.size; omega), Below.heap_setCell _ ⟨w.heap.size, 0, none⟩ _ _ (by show w.heap.size + 1 + 1 ≠ w.heap.size; omega)]
        exact k2
      by_cases hd6 : dn = 6
      · subst hd6
        obtain ⟨dd, hdd, hds⟩ := data50 data
        have HDS := Lib.hid hds
        clear hds
        have hT := HT.out
        go_wp2_with fail
        go_loopw [6] (fun s6 wr => ∃ k : Nat, s6 = .int .i64 k ∧ k ≤ 40 ∧ Hid (NextLoop w s (.cells #[.int .u8 6, .int .i64 term, .string data, .int .i64 n, .slice ak lk ck] 56 (0, 0)) k wr)) (fun s6 _ => (40 - intOf s6).toNat)
        case atStart => exact ⟨0, rfl, by omega, Lib.hid ⟨s.log, _, k0, HOW.out, HS.out, by omega, k1, k2, X4, z4⟩⟩
        case round =>
          obtain ⟨k, rfl, hk, hlo⟩ := hrel
          obtain ⟨wo, rfl⟩ : ∃ wo : World, wo = wr := ⟨_, rfl⟩
          clear y0 y1 y2 y3 y4 y5 d0 d1 d2 d3
          obtain ⟨L, lv, m0, ow, mm, hl, m1, m2, xb, zb⟩ := hlo.out
          obtain ⟨a5, c5, rfl, _, _⟩ := ow.rd.shape
          obtain ⟨y0, y1, y2, y3, y4, y5⟩ := rowFacts m0
          obtain ⟨d0, d1, d2, d3, _⟩ := row56 m1
          have MM := Lib.hid mm
          clear mm
          by_cases hkn : (k : Int) < n
          · by_cases hk4 : k < 40
            · go_upto_block 2 with fail
              have hzb : w.heap.size + 1 + 1 + 1 ≤ (wo.drew.alloc (.cells #[.int .i64 T, .string dd] 29)).heap.size := by simp only [World.size_alloc]; exact Nat.le_succ_of_le zb
              have hent := Src.ent1 wo.drew ⟨T, dd⟩ T dd rfl rfl
              have HE := Lib.hid hent
              have lg : LogV (w.heap.size + 1 + 1 + 1) wo (.slice a5 L.length c5) L := LogV.of_own ow
              clear hent
              have y2a : (wo.alloc (.cells #[.int .i64 T, .string dd] 29)).cell? ⟨w.heap.size, 2, none⟩ = some (.slice a5 L.length c5) := cell_push y2 _ (by omega)
              have d2a : (wo.alloc (.cells #[.int .i64 T, .string dd] 29)).cell? ⟨w.heap.size + 1, 2, none⟩ = some (.string data) := cell_push d2 _ (by omega)
              go_cut [] (fun wc => Hid (NextLoop w s (.cells #[.int .u8 6, .int .i64 term, .string data, .int .i64 n, .slice ak lk ck] 56 (0, 0)) (k + 1) wc))
              case first =>
                have fin : ∀ (v3 : Value) (w3 : World), OwnE w3 (w.heap.size + 1 + 1 + 1) v3 (L ++ [⟨T, dd⟩]) → Below (w.heap.size + 1 + 1 + 1) (wo.drew.alloc (.cells #[.int .i64 T, .string dd] 29)) w3 → NextLoop w s (.cells #[.int .u8 6, .int .i64 term, .string data, .int .i64 n, .slice ak lk ck] 56 (0, 0)) (k + 1) (w3.setCell ⟨w.heap.size, 2, none⟩ v3) := by
                  intro v3 w3 o3 b3
                  have n0 := (b3.block w.heap.size (by omega)).trans (heap_push (w := wo.drew) m0 (.cells #[.int .i64 T, .string dd] 29))
                  have n1 := (b3.block (w.heap.size + 1) (by omega)).trans (heap_push (w := wo.drew) m1 (.cells #[.int .i64 T, .string dd] 29))
                  have n2 := (b3.block (w.heap.size + 1 + 1) (by omega)).trans (heap_push (w := wo.drew) m2 (.cells #[.int .i64 T, .string dd] 29))
                  have o5 := (o3.setBelow (b := w.heap.size) (o := 2) (by omega) v3)
                  have mm := may_snoc MM.out (⟨T, dd⟩ : Ent) (by simp only; omega) (by simp only; omega) (by simp only; omega) (by simp only; omega)
                  refine ⟨L ++ [⟨T, dd⟩], _, heap_set (o := 2) _ n0, o5, mm, by simp only [List.length_append, List.length_cons, List.length_nil]; omega, (Below.heap_setCell _ ⟨w.heap.size, 2, none⟩ _ _ (by show w.heap.size + 1 ≠ w.heap.size; omega)).trans n1, (Below.heap_setCell _ ⟨w.heap.size, 2, none⟩ _ _ (by show w.heap.size + 1 + 1 ≠ w.heap.size; omega)).trans n2, ?_, ?_⟩
                  · exact (((xb.drew).alloc (show w.heap.size ≤ wo.heap.size by omega) _).trans (b3.mono (by omega))).setCell (p := ⟨w.heap.size, 2, none⟩) (by simp) _
                  · rw [World.size_setCell]
                    exact Nat.le_trans hzb b3.size
                have FIN := Lib.hid fin
                clear fin
                go_wp2_with fail
                rcases HDS.out with ⟨h50, hif, hds⟩ | ⟨h50, hif, hds⟩
                all_goals
                  go_region_law ((refine step_append_logv rfl _ _ rfl (w.heap.size + 1 + 1 + 1) (.slice a5 L.length c5) L rfl (lg.ext (((Ext.refl [] wo).drewN 1).alloc _)) _ [⟨T, dd⟩] rfl HE.out (by simp) (by simp only [List.length_cons, List.length_nil]; omega) hzb ?_
                                  intro v3 w3 o3 b3
                                  have HW3 := Lib.hid (FIN.out v3 w3 o3 b3)
                                  have n0 := (b3.block w.heap.size (by omega)).trans (heap_push (w := wo.drew) m0 (.cells #[.int .i64 T, .string dd] 29))
                                  obtain ⟨e0, e1, e2, e3, e4, e5⟩ := rowFacts n0
                                  obtain ⟨a3, cap3, rfl, _, _⟩ := o3.rd.shape
                                  clear o3 b3 n0
                                  generalize (L ++ [(⟨T, dd⟩ : Ent)]).length = N3 at HW3 ⊢))
                  all_goals
                    go_wp2_with fail
                    go_meet
                    exact HW3
              case rest =>
                obtain ⟨w11, rfl⟩ : ∃ w11 : World, w11 = wc := ⟨_, rfl⟩
                go_wp2_with fail
                go_roundw
                case rel => exact ⟨k + 1, by go_num, by omega, hcut⟩
                case measure => simp [intOf]; omega
            · obtain rfl : k = 40 := by omega
              go_wp2_with fail
              go_meet
              exact ⟨⟨s.term, s.vote, L⟩, _, m0, ow.rd, MM.out, by simp only; omega, m2, xb⟩
          · go_wp2_with fail
            go_meet
            exact ⟨⟨s.term, s.vote, L⟩, _, m0, ow.rd, MM.out, by simp only; omega, m2, xb⟩
      · have e0 : (dn == 0) = false := by simpa using hd0
        have e1 : (dn == 1) = false := by simpa using hd1
        have e2 : (dn == 2) = false := by simpa using hd2
        have e6 : (dn == 6) = false := by simpa using hd6
        go_wp2_with fail
        go_meet
        exact FIN0.out _ _ _ k0 HOW.out k2 X4 HS.out
    case rest =>
      obtain ⟨s6, v6, m0, hv6, hm6, hl6, m2, xb⟩ := hcut
      obtain ⟨a6, c6, rfl, _, _⟩ := hv6.shape
      have hzz : w.heap.size + 1 + 1 < wc.heap.size := (Array.getElem?_eq_some_iff.1 m2).1
      clear y0 y1 y2 y3 y4 y5 d0 d1 d2 d3
      obtain ⟨y0, y1, y2, _⟩ := rowFacts m0
      obtain ⟨e0, e1, e2, e3, e4, e5⟩ := rowFacts m2
      have HM6 := Lib.hid hm6
      clear hm6
      go_wp2_with fail
      refine bodyPost_ret (v := .agg #[.int .i64 s6.term, .int .i64 s6.vote, .slice a6 s6.log.length c6]) (by simp [results, Tryz.results24, go_sem, e0, e1, e2]) rfl ⟨s6, _, rfl, ?_, HM6.out, hl6, ?_⟩
      · exact RdE.mono (Rd.setOther (Rd.setOther (Rd.setOther hv6 m2 (by decide)) (heap_set (o := 0) (.int .i64 s6.term) m2) (by decide)) (heap_set (o := 1) (.int .i64 s6.vote) (heap_set (o := 0) (.int .i64 s6.term) m2)) (by decide)) (by simp)
      · exact ((xb.setCell (p := ⟨w.heap.size + 1 + 1, 0, none⟩) (by simp; omega) _).setCell (p := ⟨w.heap.size + 1 + 1, 1, none⟩) (by simp; omega) _).setCell (p := ⟨w.heap.size + 1 + 1, 2, none⟩) (by simp; omega) _
end Go.Proofs.YtipbfmalacnmkaaGreat
