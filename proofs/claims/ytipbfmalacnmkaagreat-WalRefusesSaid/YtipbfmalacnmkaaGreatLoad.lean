/- What wal.load reads from a file of runs. -/
import Derived.Test.YtipbfmalacnmkaaGreatRuns
import Derived.Test.YtipbfmalacnmkaaGreatApply
import Derived.Test.YtipbfmalacnmkaaGreatMay
import Derived.Shelf.Abstract
import Derived.Shelf.RegionOpen
namespace Go.Proofs.YtipbfmalacnmkaaGreat
open Go.RowKit Go.Shelf

attribute [local go_sem] Oper.semAt_some

/-- One record that may be applied. -/
def Step (s : Sv) (rec : List UInt8) (s' : Sv) : Prop := ∃ (T V : Int) (cut : Nat) (es : List Ent), rec = recBytes T V cut es ∧ 0 ≤ T ∧ T ≤ 1152921504606846976 ∧ -1 ≤ V ∧ V ≤ 6 ∧ cut ≤ s.log.length ∧ s.log.length ≤ 4096 ∧ es.length ≤ 4096 ∧ (∀ x ∈ es, entOk x = true) ∧ s' = ⟨T, V, s.log.take cut ++ es⟩
def Chain : Sv → List (List UInt8) → Sv → Prop
  | s, [], s' => s = s'
  | s, r :: rs, s' => ∃ s1, Step s r s1 ∧ Chain s1 rs s'
theorem Chain.append : ∀ {s : Sv} {rs rs' : List (List UInt8)} {s' : Sv}, Chain s (rs ++ rs') s' ↔ ∃ s1, Chain s rs s1 ∧ Chain s1 rs' s'
  | s, [], rs', s' => ⟨fun h => ⟨s, rfl, h⟩, fun ⟨s1, h, h'⟩ => by cases h; exact h'⟩
  | s, r :: rs, rs', s' => by
    constructor
    · rintro ⟨s1, h1, h2⟩
      obtain ⟨s2, h3, h4⟩ := Chain.append.1 h2
      exact ⟨s2, ⟨s1, h1, h3⟩, h4⟩
    · rintro ⟨s2, ⟨s1, h1, h3⟩, h4⟩
      exact ⟨s1, h1, Chain.append.2 ⟨s2, h3, h4⟩⟩

set_option maxRecDepth 10000 in
theorem runs_calls (a : Option Addr) (n cap : Nat) (w : World) : Calls Tryz.prog 66 #[.slice a n cap] w fun e w' => e = .returned (.func (.func 79) #[] #[.pointer (some ⟨w.heap.size, 0, none⟩)]) ∧ w' = w.alloc (.cells #[.slice a n cap] 30) := by
  have hmf := makeFn
  go_enter Tryz.func66, Tryz.ntmps66
  go_wp2
  go_ret
  exact ⟨rfl, rfl⟩

theorem Grow.cells {B : Nat} {A A' : World} (h : Grow B A A') {k e : Nat} {cs : Array Value} {fz : Nat × Nat} (hk : A.heap[k]? = some (.cells cs e fz)) : A'.heap[k]? = some (.cells cs e fz) := by
  obtain ⟨M, hM, hx⟩ := h
  refine (hx.block k (Array.getElem?_eq_some_iff.1 hk).1 (fun hm => ?_)).trans hk
  obtain ⟨-, o, h1, h2⟩ := hM k hm
  rw [hk] at h1
  cases h1
  cases h2
theorem Grow.size {B : Nat} {A A' : World} (h : Grow B A A') : A.heap.size ≤ A'.heap.size := h.choose_spec.2.size
theorem Grow.below {B B' : Nat} {w A A' : World} (h : Grow B A A') (hb : Below B' w A) (h1 : B' ≤ B) (h2 : B' ≤ w.heap.size) : Below B' w A' := by
  obtain ⟨M, hM, hx⟩ := h
  exact hb.trans (hx.below (Nat.le_trans h2 hb.size) (fun k hk => Nat.le_trans h1 (hM k hk).1))
theorem SavAt.grow {B : Nat} {A A' : World} (h : Grow B A A') {sb : Nat} {s : Sv} (hs : SavAt A.heap.size A sb s) : SavAt A'.heap.size A' sb s := by
  obtain ⟨lv, h1, h2⟩ := hs
  exact ⟨lv, h.cells h1, RdE.mono (Rd.keepT h2 (fun k cur _ fz _ _ hc => h.cells hc)) h.size⟩

theorem marks_take (recs : List (List UInt8)) : ∀ (p : Nat) (pre : List (List UInt8 × Nat)) (y : List UInt8 × Nat), (pre ++ [y]) <+: marks p recs →
    ∃ rs r rs', recs = rs ++ r :: rs' ∧ pre = marks p rs ∧ y = (r, p + (runsOf (rs ++ [r])).length) := by
  induction recs with
  | nil => intro p pre y h; simp [marks] at h
  | cons r0 recs ih =>
    intro p pre y h
    cases pre with
    | nil =>
      simp [marks] at h
      exact ⟨[], r0, recs, rfl, rfl, by rw [h]; simp [runsOf]⟩
    | cons z pre =>
      simp only [marks, List.cons_append, List.cons_prefix_cons] at h
      obtain ⟨rs, r, rs', h1, h2, h3⟩ := ih _ pre y h.2
      exact ⟨r0 :: rs, r, rs', by rw [h1]; rfl, by rw [h.1, h2]; rfl, by rw [h3]; simp [runsOf]; omega⟩
theorem marks_append (p : Nat) (rs rs' : List (List UInt8)) : marks p (rs ++ rs') = marks p rs ++ marks (p + (runsOf rs).length) rs' := by
  induction rs generalizing p with
  | nil => simp [marks, runsOf]
  | cons r rs ih => simp [marks, runsOf, ih]; rw [Nat.add_assoc]
theorem marks_inj (rs rs' : List (List UInt8)) (p : Nat) (h : marks p rs = marks p rs') : rs = rs' := by
  induction rs generalizing p rs' with
  | nil => cases rs' <;> simp_all [marks]
  | cons r rs ih => cases rs' with
    | nil => simp [marks] at h
    | cons r' rs' =>
      simp only [marks, List.cons.injEq, Prod.mk.injEq] at h
      obtain ⟨⟨rfl, -⟩, h2⟩ := h
      rw [ih _ _ h2]

theorem heap_push {w : World} {k : Nat} {o : Obj} (h : w.heap[k]? = some o) (ob : Obj) : (w.alloc ob).heap[k]? = some o := (Below.heap_alloc w ob k (Array.getElem?_eq_some_iff.1 h).1).trans h
theorem RelR.putObj (y : List UInt8 × Nat) (x : Value × Int) (A : World) (l : Nat) (o o' : Obj) (h : RelR y x A) (hl : A.heap[l]? = some o) (ho : o.isCells = false) : RelR y x (A.putObj l o') :=
  ⟨h.1, RdB.mono (Rd.keep h.2 (fun _ _ _ _ hc => (Grow.putObj (B := 0) o' (Nat.zero_le l) hl ho).cells hc)) (Grow.putObj (B := 0) o' (Nat.zero_le l) hl ho).size⟩

set_option maxRecDepth 100000 in
set_option maxHeartbeats 1000000 in
theorem load_calls (bv : Value) (recs : List (List UInt8)) (q : List UInt8) (hq : Torn q) (s : Sv) (hch : Chain ⟨0, -1, []⟩ recs s) (w : World) (hv : RdB w.heap.size w bv (runsOf recs ++ q)) (hT : (runsOf recs ++ q).length ≤ 1099511627776) (hs : mayB s = true) :
    Calls Tryz.prog 39 #[bv] w fun e w' => ∃ lv, e = .returned (.tuple #[.agg #[.int .i64 s.term, .int .i64 s.vote, lv], .int .i64 (runsOf recs).length, .bool true]) ∧ RdE w'.heap.size w' lv s.log ∧ Below w.heap.size w w' := by
  obtain ⟨a0, cap0, rfl, hq1, hq2⟩ := hv.shape
  have hseq := runs1_all 4 (by omega) (w.heap.size + 1 + 1 + 1 + 1 + 1) w.heap.size (.slice a0 (runsOf recs ++ q).length cap0) recs q hq
  have hbl : (runsOf recs).length ≤ 1099511627776 := by rw [List.length_append] at hT; omega
  generalize (runsOf recs ++ q).length = LL at hq1 hv hT hseq
  refine (callsIn_wide (n := 5)).1 ?_
  refine callsIn_of_wp_marks Tryz.func39 rfl trivial ?_ rfl
  simp only [Tryz.ntmps39, List.size_toArray, List.length_cons, List.length_nil, Nat.reduceAdd, Nat.reduceSub, Array.replicate_succ, Array.replicate_zero, List.push_toArray, List.append_toArray, List.nil_append, List.cons_append]
  gi_wp2_with ((with_reducible refine And.intro (wide_fn 66) ?_); gi_at_call 66; refine (callsIn_wide.2 (runs_calls _ _ _ _)).mono ?_; rintro e w' ⟨rfl, rfl⟩)
  obtain ⟨W, hW⟩ : ∃ W, W = ((((((w.alloc (Obj.cells #[.int .i64 0, .int .i64 0, .slice none 0 0] 27)).alloc (Obj.cells #[.int .i64 0] 3)).alloc (Obj.cells #[.bool false] 4)).alloc (Obj.cells #[.int .i64 0, .int .i64 (-1), .slice none 0 0] 27)).alloc (Obj.cells #[.int .i64 0] 3)).alloc (Obj.cells #[.slice a0 LL cap0] 30)) := ⟨_, rfl⟩
  rw [← hW]
  have hB0 : Ext [] w W := by rw [hW]; exact ((((((Ext.refl [] w).alloc _).alloc _).alloc _).alloc _).alloc _).alloc _
  have hz : W.heap.size = w.heap.size + 1 + 1 + 1 + 1 + 1 + 1 := by rw [hW]; simp only [World.size_alloc]
  have r0 : W.heap[w.heap.size]? = some (.cells #[.int .i64 0, .int .i64 0, .slice none 0 0] 27 (0, 0)) := by
    rw [hW]; exact heap_push (heap_push (heap_push (heap_push (heap_push (heap_alloc_new w _) _) _) _) _) _
  have r1 : W.heap[w.heap.size + 1]? = some (.cells #[.int .i64 0] 3 (0, 0)) := by
    have := heap_alloc_new (w.alloc (Obj.cells #[.int .i64 0, .int .i64 0, .slice none 0 0] 27)) (Obj.cells #[.int .i64 0] 3)
    simp only [World.size_alloc] at this
    rw [hW]; exact heap_push (heap_push (heap_push (heap_push this _) _) _) _
  have r2 : W.heap[w.heap.size + 1 + 1]? = some (.cells #[.bool false] 4 (0, 0)) := by
    have := heap_alloc_new ((w.alloc (Obj.cells #[.int .i64 0, .int .i64 0, .slice none 0 0] 27)).alloc (Obj.cells #[.int .i64 0] 3)) (Obj.cells #[.bool false] 4)
    simp only [World.size_alloc] at this
    rw [hW]; exact heap_push (heap_push (heap_push this _) _) _
  have r3 : W.heap[w.heap.size + 1 + 1 + 1]? = some (.cells #[.int .i64 0, .int .i64 (-1), .slice none 0 0] 27 (0, 0)) := by
    have := heap_alloc_new (((w.alloc (Obj.cells #[.int .i64 0, .int .i64 0, .slice none 0 0] 27)).alloc (Obj.cells #[.int .i64 0] 3)).alloc (Obj.cells #[.bool false] 4)) (Obj.cells #[.int .i64 0, .int .i64 (-1), .slice none 0 0] 27)
    simp only [World.size_alloc] at this
    rw [hW]; exact heap_push (heap_push this _) _
  have r4 : W.heap[w.heap.size + 1 + 1 + 1 + 1]? = some (.cells #[.int .i64 0] 3 (0, 0)) := by
    have := heap_alloc_new ((((w.alloc (Obj.cells #[.int .i64 0, .int .i64 0, .slice none 0 0] 27)).alloc (Obj.cells #[.int .i64 0] 3)).alloc (Obj.cells #[.bool false] 4)).alloc (Obj.cells #[.int .i64 0, .int .i64 (-1), .slice none 0 0] 27)) (Obj.cells #[.int .i64 0] 3)
    simp only [World.size_alloc] at this
    rw [hW]; exact heap_push this _
  have r5 : W.heap[w.heap.size + 1 + 1 + 1 + 1 + 1]? = some (.cells #[.slice a0 LL cap0] 30 (0, 0)) := by
    have := heap_alloc_new (((((w.alloc (Obj.cells #[.int .i64 0, .int .i64 0, .slice none 0 0] 27)).alloc (Obj.cells #[.int .i64 0] 3)).alloc (Obj.cells #[.bool false] 4)).alloc (Obj.cells #[.int .i64 0, .int .i64 (-1), .slice none 0 0] 27)).alloc (Obj.cells #[.int .i64 0] 3)) (Obj.cells #[.slice a0 LL cap0] 30)
    simp only [World.size_alloc] at this
    rw [hW]; exact this
  clear hW
  generalize hg5 : w.heap.size + 1 + 1 + 1 + 1 + 1 = g5 at *
  generalize hg4 : w.heap.size + 1 + 1 + 1 + 1 = g4 at *
  generalize hg3 : w.heap.size + 1 + 1 + 1 = g3 at *
  generalize hg2 : w.heap.size + 1 + 1 = g2 at *
  generalize hg1 : w.heap.size + 1 = g1 at *
  generalize hg0 : w.heap.size = g0 at *
  refine range_all (Rel := RelR) (xs := marks 0 recs) (by omega) (gf := 79) (lb := #[.pointer (some ⟨g5, 0, none⟩)]) rfl (enters_of Tryz.func79 (by kernel_rfl) rfl) (encs := encR) [g3, g4] (by simp; omega)
    (fun l hl => hseq (l :: [g3, g4]) W (by rw [cell_of_row _ _ _ _ _ _ r5]; rfl) (by omega) (by simp; omega) (by omega) (hv.ext hB0) hT) (fun _ => rfl)
    (fun pre W' => ∃ rs rs' sk, recs = rs ++ rs' ∧ pre = marks 0 rs ∧ Chain ⟨0, -1, []⟩ rs sk ∧ Chain sk rs' s ∧ SavAt W'.heap.size W' g3 sk ∧ W'.heap[g4]? = some (.cells #[.int .i64 (runsOf rs).length] 3 (0, 0)) ∧
      W'.heap[g0]? = some (.cells #[.int .i64 0, .int .i64 0, .slice none 0 0] 27 (0, 0)) ∧ W'.heap[g1]? = some (.cells #[.int .i64 0] 3 (0, 0)) ∧ W'.heap[g2]? = some (.cells #[.bool false] 4 (0, 0)) ∧ Below g0 w W')
    ?I ?zero (fun x => { tmps := #[.slice a0 LL cap0, undef, .pointer (some ⟨g0, 0, none⟩), .pointer (some ⟨g1, 0, none⟩), .pointer (some ⟨g2, 0, none⟩), .pointer (some ⟨g3, 0, none⟩), .pointer (some ⟨g4, 0, none⟩), x.1, .int .i64 x.2, .agg #[.int .i64 0, .int .i64 (-1), .slice none 0 0], .slice a0 LL cap0, .func (.func 79) #[] #[.pointer (some ⟨g5, 0, none⟩)], x.1, .int .i64 x.2, undef, undef, undef, undef, undef, undef, undef, undef, undef, undef], defers := [] }) ?assign RelR.putObj ?body ?done
  case I =>
    rintro pre A A' ⟨rs, rs', sk, h1, h2, h3, h4, h5, h6, h7, h8, h9, h10⟩ hg
    exact ⟨rs, rs', sk, h1, h2, h3, h4, h5.grow hg, hg.cells h6, hg.cells h7, hg.cells h8, hg.cells h9, hg.below h10 (by omega) (by omega)⟩
  case zero => exact ⟨[], recs, ⟨0, -1, []⟩, rfl, rfl, rfl, hch, ⟨_, r3, Rd.nil _ _ _ _⟩, r4, r0, r1, r2, hB0.below (by omega) (by simp)⟩
  case assign =>
    rintro l ⟨xv, xi⟩ W K hK
    simp only [encR]
    gi_wp2
    exact hK
  case body =>
    rintro l pre y x W1 ⟨rs, rs', sk, h1, h2, h3, h4, h5, h6, h7, h8, h9, h10⟩ ⟨hx2, hx1⟩ hpre
    obtain ⟨rs2, r, rs2', e1, e2, rfl⟩ := marks_take _ _ _ _ hpre
    obtain rfl := marks_inj _ _ _ (h2.symm.trans e2)
    obtain rfl : rs' = r :: rs2' := List.append_cancel_left (h1.symm.trans e1)
    obtain ⟨s1, hst, h4⟩ := h4
    have hst' := hst
    obtain ⟨T, V, cut, es, rfl, t0, t1, v0, v1, hc, hl, he, hes, rfl⟩ := hst
    obtain ⟨xv, xi⟩ := x
    simp only at hx1 hx2
    subst hx2
    have hap := apply_calls g3 xv sk T V cut es W1 h5 hx1 t0 t1 v0 v1 hc hl he hes
    gi_wp2_with ((with_reducible refine And.intro (wide_fn 67) ?_); gi_at_call 67; refine (CallsIn.inRound l (callsIn_wide.2 hap)).mono ?_; rintro e w2 ⟨rfl, h5', hx⟩; have f6 : w2.heap[g4]? = some (.cells #[.int .i64 (runsOf rs).length] 3 (0, 0)) := (hx.block g4 (Array.getElem?_eq_some_iff.1 h6).1 (by simp; omega)).trans h6; have c6 : w2.cell? ⟨g4, 0, none⟩ = some (.int .i64 (runsOf rs).length) := (by rw [cell_of_row _ _ _ _ _ _ f6]; rfl); have f6' : w2.frozen? ⟨g4, 0, none⟩ = false := frozen_of_row _ _ _ _ _ f6)
    have hmk : marks 0 (rs ++ [recBytes T V cut es]) = marks 0 rs ++ [(recBytes T V cut es, 0 + (runsOf (rs ++ [recBytes T V cut es])).length)] := by
      rw [marks_append]; simp [marks, runsOf]
    have hx' : Ext [g3, g4] W1 w2 := hx.mono (by simp; omega)
    have hne : g3 ≠ g4 := by omega
    have hgo : ∀ {k : Nat} {o : Obj}, W1.heap[k]? = some o → k ≠ g3 → k ≠ g4 → (w2.setCell ⟨g4, 0, none⟩ (.int .i64 (runsOf (rs ++ [recBytes T V cut es])).length)).heap[k]? = some o := fun hk h3 h4 =>
      (Below.heap_setCell w2 ⟨g4, 0, none⟩ _ _ h4).trans ((hx.block _ (Array.getElem?_eq_some_iff.1 hk).1 (by simpa using h3)).trans hk)
    obtain ⟨lv', m1, m2⟩ := h5'
    refine ⟨hx'.setCell (p := ⟨g4, 0, none⟩) (.inl (by simp)) _, rs ++ [recBytes T V cut es], rs2', ⟨T, V, sk.log.take cut ++ es⟩, by rw [e1]; simp, by rw [hmk, h2], Chain.append.2 ⟨sk, h3, _, hst', rfl⟩, h4,
      ⟨lv', (Below.heap_setCell w2 ⟨g4, 0, none⟩ _ _ hne).trans m1, RdE.mono (Rd.setOther m2 f6 (by decide)) (by simp [go_sem])⟩, heap_set (o := 0) _ f6, hgo h7 (by omega) (by omega), hgo h8 (by omega) (by omega), hgo h9 (by omega) (by omega), ?_⟩
    exact h10.trans ((hx'.setCell (p := ⟨g4, 0, none⟩) (.inl (by simp)) _).below (Nat.le_of_lt (Array.getElem?_eq_some_iff.1 h7).1) (by simp; omega))
  case done =>
    rintro D W1 hD ⟨rs, rs', sk, h1, h2, h3, h4, h5, h6, h7, h8, h9, h10⟩ hDD
    obtain rfl : rs = recs := (marks_inj _ _ _ h2).symm
    obtain rfl : rs' = [] := by simpa using h1
    obtain rfl : sk = s := h4
    obtain ⟨lv, k5, l5⟩ := h5
    obtain ⟨al, cl, rfl, -, -⟩ := l5.shape
    gi_wp2
    refine wpIn_wide.2 ?_
    have p0 : W1.cell? ⟨g3, 0, none⟩ = some (.int .i64 sk.term) := by rw [cell_of_row _ _ _ _ _ _ k5]; rfl
    have p1 : W1.cell? ⟨g3, 1, none⟩ = some (.int .i64 sk.vote) := by rw [cell_of_row _ _ _ _ _ _ k5]; rfl
    have p2 : W1.cell? ⟨g3, 2, none⟩ = some (.slice al sk.log.length cl) := by rw [cell_of_row _ _ _ _ _ _ k5]; rfl
    have p4 : W1.cell? ⟨g4, 0, none⟩ = some (.int .i64 (runsOf rs).length) := by rw [cell_of_row _ _ _ _ _ _ h6]; rfl
    have hL : ∀ x ∈ sk.log, x.data.size ≤ maxLen := fun x hx => by
      have := (entOk_parts (List.all_eq_true.1 (may_parts hs).2.2.2.2.2 x hx)).2.2
      unfold maxLen; omega
    have HM := Lib.hid (fun W hW => may_calls (.slice al sk.log.length cl) sk hL W hW)
    have HS := Lib.hid hs
    have hgD : g0 ≤ D := by omega
    clear hL hs hseq hq hT hv r0 r1 r2 r3 r4 r5 hB0 h1 h2 h3 hD hz
    go_region_with (go_at_call 28; refine (HM.out W1.drew (Rd.ext l5 (Ext.refl [] W1).drew)).mono ?_; rintro e w2 ⟨rfl, hb2⟩
                    have x7 := (Ext.of_below hb2).heap h7
                    have x8 := (Ext.of_below hb2).heap h8
                    have x9 := (Ext.of_below hb2).heap h9
                    have y0 : w2.cell? ⟨g0, 0, none⟩ = some (.int .i64 0) := (by rw [cell_of_row _ _ _ _ _ _ x7]; rfl)
                    have y1 : w2.cell? ⟨g0, 1, none⟩ = some (.int .i64 0) := (by rw [cell_of_row _ _ _ _ _ _ x7]; rfl)
                    have y2 : w2.cell? ⟨g0, 2, none⟩ = some (.slice none 0 0) := (by rw [cell_of_row _ _ _ _ _ _ x7]; rfl)
                    have y3 : w2.cell? ⟨g1, 0, none⟩ = some (.int .i64 0) := (by rw [cell_of_row _ _ _ _ _ _ x8]; rfl)
                    have y4 : w2.cell? ⟨g2, 0, none⟩ = some (.bool false) := (by rw [cell_of_row _ _ _ _ _ _ x9]; rfl)
                    have x5 := (Ext.of_below hb2).heap k5
                    have x6 := (Ext.of_below hb2).heap h6
                    have y5 : w2.cell? ⟨g3, 0, none⟩ = some (.int .i64 sk.term) := (by rw [cell_of_row _ _ _ _ _ _ x5]; rfl)
                    have y6 : w2.cell? ⟨g3, 1, none⟩ = some (.int .i64 sk.vote) := (by rw [cell_of_row _ _ _ _ _ _ x5]; rfl)
                    have y7 : w2.cell? ⟨g3, 2, none⟩ = some (.slice al sk.log.length cl) := (by rw [cell_of_row _ _ _ _ _ _ x5]; rfl)
                    have y8 : w2.cell? ⟨g4, 0, none⟩ = some (.int .i64 (runsOf rs).length) := (by rw [cell_of_row _ _ _ _ _ _ x6]; rfl)
                    have z0 : w2.frozen? ⟨g0, 0, none⟩ = false := frozen_of_row _ _ _ _ _ x7
                    have z1 : w2.frozen? ⟨g0, 1, none⟩ = false := frozen_of_row _ _ _ _ _ x7
                    have z2 : w2.frozen? ⟨g0, 2, none⟩ = false := frozen_of_row _ _ _ _ _ x7
                    have z3 : w2.frozen? ⟨g1, 0, none⟩ = false := frozen_of_row _ _ _ _ _ x8
                    have z4 : w2.frozen? ⟨g2, 0, none⟩ = false := frozen_of_row _ _ _ _ _ x9)
    all_goals
      go_wp2
      gi_wp2
      have X2 : Ext [g0, g1, g2] W1 w2 := ((Ext.refl _ W1).drew.cut (M1 := []) (Ext.of_below hb2) (by simp))
      have XF := ((((X2.setCell (p := ⟨g0, 0, none⟩) (.inl (by simp)) (.int .i64 sk.term)).setCell (p := ⟨g0, 1, none⟩) (.inl (by simp)) (.int .i64 sk.vote)).setCell (p := ⟨g0, 2, none⟩) (.inl (by simp)) (.slice al sk.log.length cl)).setCell (p := ⟨g1, 0, none⟩) (.inl (by simp)) (.int .i64 (runsOf rs).length)).setCell (p := ⟨g2, 0, none⟩) (.inl (by simp)) (.bool (mayB sk))
      have n1 : g0 ≠ g1 := by omega
      have n2 : g0 ≠ g2 := by omega
      have n3 : g1 ≠ g2 := by omega
      have n4 : g1 ≠ g0 := by omega
      have n5 : g2 ≠ g0 := by omega
      have n6 : g2 ≠ g1 := by omega
      have m0 := heap_set (o := 2) (.slice al sk.log.length cl) (heap_set (o := 1) (.int .i64 sk.vote) (heap_set (o := 0) (.int .i64 sk.term) x7))
      have m1 := (Below.heap_setCell _ ⟨g2, 0, none⟩ (.bool (mayB sk)) g0 n2).trans ((Below.heap_setCell _ ⟨g1, 0, none⟩ (.int .i64 (runsOf rs).length) g0 n1).trans m0)
      have x8' : (((w2.setCell ⟨g0, 0, none⟩ (.int .i64 sk.term)).setCell ⟨g0, 1, none⟩ (.int .i64 sk.vote)).setCell ⟨g0, 2, none⟩ (.slice al sk.log.length cl)).heap[g1]? = some (Obj.cells #[Value.int IntKind.i64 0] 3) :=
        (Below.heap_setCell _ _ _ g1 n4).trans ((Below.heap_setCell _ _ _ g1 n4).trans ((Below.heap_setCell _ _ _ g1 n4).trans x8))
      have m2 := (Below.heap_setCell _ ⟨g2, 0, none⟩ (.bool (mayB sk)) g1 n3).trans (heap_set (o := 0) (.int .i64 (runsOf rs).length) x8')
      have x9' : ((((w2.setCell ⟨g0, 0, none⟩ (.int .i64 sk.term)).setCell ⟨g0, 1, none⟩ (.int .i64 sk.vote)).setCell ⟨g0, 2, none⟩ (.slice al sk.log.length cl)).setCell ⟨g1, 0, none⟩ (.int .i64 (runsOf rs).length)).heap[g2]? = some (Obj.cells #[Value.bool false] 4) :=
        (Below.heap_setCell _ _ _ g2 n6).trans ((Below.heap_setCell _ _ _ g2 n5).trans ((Below.heap_setCell _ _ _ g2 n5).trans ((Below.heap_setCell _ _ _ g2 n5).trans x9)))
      have m3 := heap_set (o := 0) (.bool (mayB sk)) x9'
      have hDn : D ∉ [g0, g1, g2] := by
        simp only [List.mem_cons, List.not_mem_nil, or_false]
        rintro (rfl | rfl | rfl)
        · rw [h7] at hDD; cases hDD
        · rw [h8] at hDD; cases hDD
        · rw [h9] at hDD; cases hDD
      have hDF := (XF.block D (Array.getElem?_eq_some_iff.1 hDD).1 hDn).trans hDD
      generalize (((((w2.setCell ⟨g0, 0, none⟩ (.int .i64 sk.term)).setCell ⟨g0, 1, none⟩ (.int .i64 sk.vote)).setCell ⟨g0, 2, none⟩ (.slice al sk.log.length cl)).setCell ⟨g1, 0, none⟩ (.int .i64 (runsOf rs).length)).setCell ⟨g2, 0, none⟩ (.bool (mayB sk))) = F at XF m1 m2 m3 hDF ⊢
      refine ⟨by simp, .inl ⟨_, _, rfl, run_takeDeferred hDF, ?_⟩⟩
      have hgr := Grow.putObj (B := g0) (.deferred none) hgD hDF rfl
      have w0 := hgr.cells m1
      have w1 := hgr.cells m2
      have w2' := hgr.cells m3
      have c0 : (F.putObj D (.deferred none)).cell? ⟨g0, 0, none⟩ = some (.int .i64 sk.term) := by rw [cell_of_row _ _ _ _ _ _ w0]; rfl
      have c1 : (F.putObj D (.deferred none)).cell? ⟨g0, 1, none⟩ = some (.int .i64 sk.vote) := by rw [cell_of_row _ _ _ _ _ _ w0]; rfl
      have c2 : (F.putObj D (.deferred none)).cell? ⟨g0, 2, none⟩ = some (.slice al sk.log.length cl) := by rw [cell_of_row _ _ _ _ _ _ w0]; rfl
      have c3 : (F.putObj D (.deferred none)).cell? ⟨g1, 0, none⟩ = some (.int .i64 (runsOf rs).length) := by rw [cell_of_row _ _ _ _ _ _ w1]; rfl
      have c4 : (F.putObj D (.deferred none)).cell? ⟨g2, 0, none⟩ = some (.bool (mayB sk)) := by rw [cell_of_row _ _ _ _ _ _ w2']; rfl
      have hsz : W1.heap.size ≤ (F.putObj D (.deferred none)).heap.size := Nat.le_trans XF.size hgr.size
      have lF : RdE W1.heap.size F (.slice al sk.log.length cl) sk.log := Rd.extM l5 XF (fun k hk cur fz hc => by
        simp only [List.mem_cons, List.not_mem_nil, or_false] at hk
        rcases hk with rfl | rfl | rfl
        · rw [h7] at hc; cases hc
        · rw [h8] at hc; cases hc
        · rw [h9] at hc; cases hc) (fun _ t ht k hk cur fz hc => by
        simp only [List.mem_cons, List.not_mem_nil, or_false] at hk
        rcases hk with rfl | rfl | rfl
        · rw [h7] at hc; cases hc; exact absurd rfl ht.ne
        · rw [h8] at hc; cases hc; exact absurd rfl ht.ne
        · rw [h9] at hc; cases hc; exact absurd rfl ht.ne)
      refine ⟨.tuple #[.agg #[.int .i64 sk.term, .int .i64 sk.vote, .slice al sk.log.length cl], .int .i64 (runsOf rs).length, .bool (mayB sk)], ?_, .slice al sk.log.length cl, by rw [HS.out], RdE.mono (Rd.keepT lF (fun k cur _ fz _ _ hc => hgr.cells hc)) hsz, by rw [hg0]; exact hgr.below (h10.trans (XF.below (Nat.le_of_lt (Array.getElem?_eq_some_iff.1 h7).1) (by simp; omega))) (Nat.le_refl _) (by omega)⟩
      simp [results, Tryz.f39, go_sem, c0, c1, c2, c3, c4]
end Go.Proofs.YtipbfmalacnmkaaGreat
