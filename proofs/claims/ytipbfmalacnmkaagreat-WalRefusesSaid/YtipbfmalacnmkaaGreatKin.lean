/- In which blocks an argument's entries may lie: none that the program's own text names but those of entries. And how a Saved argument is read. -/
import Derived.Test.YtipbfmalacnmkaaGreatLift
namespace Go.Proofs.YtipbfmalacnmkaaGreat
open Go.RowKit Go.ChangeShapes Go.WideShapes Go.Deep

/-- Does a type that fits lie in this one? -/
def reach (P : Program) (fits : TypeId → Bool) : Nat → TypeId → Bool
  | 0, _ => false
  | d + 1, e => fits e || match P.underlying e with
    | some (.struct fs) => fs.any fun f => reach P fits d f.type
    | some (.array _ e') => reach P fits d e'
    | _ => false
theorem reach_of_rowAt {P : Program} {fits : TypeId → Bool} : ∀ (d : Nat) (e : TypeId) (count off n : Nat), rowAt P fits d e count off n = true → reach P fits d e = true := by
  intro d
  induction d with
  | zero => intro e count off n h; simp [rowAt] at h
  | succ d ih =>
    intro e count off n h
    unfold rowAt at h
    simp only at h
    by_cases hz : P.cellsOf e = 0
    · rw [if_pos hz] at h
      cases h
    · rw [if_neg hz] at h
      unfold reach
      rw [Bool.or_eq_true] at h ⊢
      rcases h with h | h
      · left
        simp only [Bool.and_eq_true] at h
        exact h.2
      · right
        rw [Bool.and_eq_true] at h
        replace h := h.2
        split at h
        · rename_i fs hu
          rw [Bool.and_eq_true, Array.any_eq_true] at h
          obtain ⟨_, i, hi, h⟩ := h
          simp only [Bool.and_eq_true] at h
          rw [hu]
          simp only
          rw [Array.any_eq_true]
          exact ⟨i, hi, ih _ _ _ _ h.2⟩
        · rename_i hu
          rw [hu]
          exact ih _ _ _ _ h
        · cases h
theorem lies_row {P : Program} {e row : TypeId} {fs : Array Field} {d count off n : Nat} (hu : P.underlying e = some (.struct fs)) (h : liesAt P d row count off e n = true) : rowAt P (sameLayout P P.depth · e) P.depth row count off n = true := by
  cases d with
  | zero => simp [liesAt] at h
  | succ d =>
    unfold liesAt at h
    rw [hu] at h
    simp only [Bool.or_false] at h
    exact h
theorem slice_has {P : Program} {W : World} {base len cap : Nat} {t e : TypeId} {a : Addr} (ht : P.underlying t = some (.slice e)) (h : Cell.okWide P W .any base t (.slice (some a) len cap)) :
    ∃ row cells, W.shape? a.block = some (row, cells) ∧ liesAt P P.depth row (cells / P.cellsOf row) a.off e cap = true := by
  unfold Cell.okWide at h
  rw [ht] at h
  simp only at h
  unfold Cell.ok at h
  rw [ht] at h
  simp only at h
  obtain ⟨_, _, _, _, h⟩ := h
  exact h
theorem struct_ok {P : Program} {W : World} {base : Nat} {t : TypeId} {fs : Array Field} {v : Value} (ht : P.underlying t = some (.struct fs)) (h : Value.okWide P W .any base t v) : ∃ cs, v = .agg cs ∧ Row.okWide P W .any base t cs := by
  unfold Value.okWide at h
  rw [ht] at h
  simp only at h
  obtain ⟨cs, h1, _, h2⟩ := h
  exact ⟨cs, h1, h2⟩
theorem row_cell {P : Program} {W : World} {base i : Nat} {t u : TypeId} {ts : List TypeId} {cs : Array Value} {v : Value} (hts : P.cellTypes P.depth t = some ts) (h : Row.okWide P W .any base t cs) (hv : cs.toList[i]? = some v) (hu : ts[i % ts.length]? = some u) : Cell.okWide P W .any base u v := by
  obtain ⟨ts', h1, _, h2⟩ := h
  rw [hts] at h1
  cases h1
  obtain ⟨u', h3, h4⟩ := h2 i v (by rw [← Array.getElem?_toList]; exact hv)
  rw [hu] at h3
  cases h3
  exact h4
theorem reach29 : ((List.range 182).all fun e => !reach Tryz.prog (sameLayout Tryz.prog Tryz.prog.depth · 29) Tryz.prog.depth e || e == 28 || e == 29) = true := by kernel_rfl
theorem kin_of_lies {row : TypeId} {count off n : Nat} (h : liesAt Tryz.prog Tryz.prog.depth row count off 29 n = true) : Kin 29 row := by
  by_cases hlt : row < 182
  · have h1 := lies_row Tryz.underlying29 h
    have := List.all_eq_true.1 reach29 row (List.mem_range.2 hlt)
    rw [reach_of_rowAt _ _ _ _ _ h1] at this
    simp at this
    rcases this with h | h
    · exact .inr ⟨rfl, .inl h⟩
    · exact .inl h
  · exact .inr ⟨rfl, .inr (Nat.le_of_not_lt hlt)⟩

section
variable {H : Type} {enc : TypeId × Value → H} {W : World}
theorem fields_of_trod {P : Program} {w : World} {base : Nat} {spare : Nat → Bool} {held : Bool} {t : TypeId} {fs : Array Field} {fuel : Nat} {cs : List Value} {x : DataW H × List MemPlace} (he : P.underlying t = some (.struct fs))
    (hone : oneCellFields P fs = true) (hC : P.cellsOf t = fs.size) (h : DataW.trod enc P w base spare held fuel t cs = some x) :
    cs.length = fs.size ∧ ∃ n, ∀ (j : Nat) (f : Field), fs[j]? = some f → ∃ (v : Value) (y : DataW H × List MemPlace), cs[j]? = some v ∧ DataW.trod enc P w base spare held n f.type [v] = some y := by
  obtain ⟨ys, n', hn', hy, hlen, hyl, hf⟩ := DataW.trod_struct he h
  rw [hC] at hlen
  refine ⟨hlen, n', fun j f hj => ?_⟩
  obtain ⟨ho, hk⟩ := hone_of hone j f hj
  have hjl : j < fs.size := (Array.getElem?_eq_some_iff.1 hj).1
  have h1 := hf j f hj
  rw [ho, hk] at h1
  have hone' : (cs.drop j).take 1 = [cs[j]'(by omega)] := by
    rw [List.drop_eq_getElem_cons (by omega)]
    rfl
  rw [hone'] at h1
  have hys : ys[j]? = some (ys[j]'(by omega)) := List.getElem?_eq_getElem (by omega)
  exact ⟨_, _, List.getElem?_eq_getElem (by omega), h1.trans hys⟩

instance : Inhabited Ent := ⟨⟨0, ⟨#[]⟩⟩⟩
set_option maxRecDepth 100000 in
theorem rdE_of_trod {fuel base : Nat} {v : Value} {x : DataW H × List MemPlace} (h : DataW.trod enc Tryz.prog W 0 (fun _ => true) true fuel 25 [v] = some x) (hok : Cell.okWide Tryz.prog W .any base 25 v) :
    ∃ L, RdE W.heap.size W v L ∧ ∀ y ∈ L, y.data.size ≤ maxLen := by
  rcases open_slice_fields Tryz.underlying25 Tryz.underlying29 (by kernel_rfl) (by kernel_rfl) h with ⟨hv, _⟩ | ⟨a, len, cap, m, hv, _, hlc, hcm, hm, hall⟩
  · cases hv
    exact ⟨[], RdE.nil _ _, by simp⟩
  · cases hv
    simp only [if_true] at hm
    subst hm
    have each : ∀ i, i < m → ∃ y : Ent, y.data.size ≤ maxLen ∧ W.cell? (a.add (i * 2 + 0)) = some (.int .i64 y.term) ∧ W.cell? (a.add (i * 2 + 1)) = some (.string y.data) := by
      intro i hi
      obtain ⟨ys, n, hlen, hf⟩ := hall i hi
      obtain ⟨v0, y0, c0, _, t0⟩ := hf 0 _ rfl
      obtain ⟨v1, y1, c1, _, t1⟩ := hf 1 _ rfl
      obtain ⟨n0, h0, _, w0⟩ := DataW.trod_int Tryz.underlying2 t0
      obtain ⟨s1, h1, _, w1⟩ := DataW.trod_string Tryz.underlying9 t1
      simp only [List.cons.injEq, and_true] at h0 h1
      subst h0 h1
      exact ⟨⟨n0, s1⟩, w1, c0, c1⟩
    obtain ⟨f, hf⟩ := Go.Deep.choose_lt each
    have hl : ((List.range len).map f).length = len := by simp
    refine ⟨(List.range len).map f, ⟨some a, m, by rw [hl], ecs_length _, by rw [hl]; exact hlc, hcm, ?_⟩, fun y hy => ?_⟩
    · by_cases hz : len = 0
      · left
        rw [hl, hz]
      · right
        obtain ⟨b, off, rfl, hb⟩ := addr_of_cell (a := a) (hf 0 (by omega)).2.1
        obtain ⟨row, cells, hsh, hli⟩ := slice_has Tryz.underlying25 hok
        have hkin := kin_of_lies hli
        unfold World.shape? at hsh
        simp only at hsh
        split at hsh
        · rename_i cur e fz hcell
          simp only [Option.some.injEq, Prod.mk.injEq] at hsh
          obtain ⟨rfl, _⟩ := hsh
          refine ⟨b, off, cur, fz, rfl, hb, ⟨_, hkin, hcell⟩, ?_⟩
          have key : ∀ i, i < len → cur.toList[off + i * 2]? = some (.int .i64 (f i).term) ∧ cur.toList[off + i * 2 + 1]? = some (.string (f i).data) := by
            intro i hi
            obtain ⟨_, k0, k1⟩ := hf i (by omega)
            rw [add_off, cell_of_row _ _ _ _ _ _ hcell, ← Array.getElem?_toList] at k0 k1
            exact ⟨k0, by rw [Nat.add_assoc]; exact k1⟩
          refine List.ext_getElem? fun j => ?_
          rw [List.getElem?_take, hl, List.getElem?_drop]
          by_cases hj : j < len * 2
          · rw [if_pos hj]
            have h2 : j / 2 < len := by omega
            have hg := ecs_get ((List.range len).map f) (j / 2) (by rw [hl]; exact h2)
            have hfi : ((List.range len).map f)[j / 2]'(by rw [hl]; exact h2) = f (j / 2) := by simp
            rw [hfi] at hg
            obtain ⟨k0, k1⟩ := key (j / 2) h2
            rcases Nat.mod_two_eq_zero_or_one j with hm2 | hm2
            · have e1 : j = j / 2 * 2 := by omega
              rw [e1, k0, hg.1]
            · have e1 : j = j / 2 * 2 + 1 := by omega
              rw [e1, ← Nat.add_assoc, k1, hg.2]
          · rw [if_neg hj, List.getElem?_eq_none]
            rw [ecs_length, hl]
            omega
        · cases hsh
    · obtain ⟨i, hi, rfl⟩ := List.mem_map.1 hy
      exact (hf i (by have := List.mem_range.1 hi; omega)).1

set_option maxRecDepth 100000 in
theorem rdS_of_trod {fuel base : Nat} {v0 : Value} {x : DataW H × List MemPlace} (h : DataW.trod enc Tryz.prog W 0 (fun _ => true) true fuel 27 v0.cells.toList = some x) (hok : Value.okWide Tryz.prog W .any base 27 v0) :
    ∃ (s : Sv) (u : Value), v0 = .agg #[.int .i64 s.term, .int .i64 s.vote, u] ∧ RdE W.heap.size W u s.log ∧ ∀ y ∈ s.log, y.data.size ≤ maxLen := by
  obtain ⟨cs, rfl, hrow⟩ := struct_ok Tryz.underlying27 hok
  have hcells : (Value.agg cs).cells = cs := rfl
  rw [hcells] at h
  obtain ⟨hlen, n, hf⟩ := fields_of_trod Tryz.underlying27 (by kernel_rfl) (by kernel_rfl) h
  obtain ⟨a0, y0, c0, t0⟩ := hf 0 _ rfl
  obtain ⟨a1, y1, c1, t1⟩ := hf 1 _ rfl
  obtain ⟨a2, y2, c2, t2⟩ := hf 2 _ rfl
  obtain ⟨n0, h0, _, w0⟩ := DataW.trod_int Tryz.underlying2 t0
  obtain ⟨n1, h1, _, w1⟩ := DataW.trod_int Tryz.underlying3 t1
  have hts3 : Tryz.prog.cellTypes Tryz.prog.depth 27 = some [2, 3, 25] := by kernel_rfl
  have hok2 := row_cell hts3 hrow c2 (u := 25) rfl
  obtain ⟨L, hL, hsz⟩ := rdE_of_trod t2 hok2
  simp only [List.cons.injEq, and_true] at h0 h1
  subst h0 h1
  refine ⟨⟨n0, n1, L⟩, a2, ?_, hL, hsz⟩
  congr 1
  apply Array.ext_getElem?
  intro i
  rw [← Array.getElem?_toList]
  have hl3 : cs.toList.length = 3 := hlen
  match i with
  | 0 => rw [c0]; rfl
  | 1 => rw [c1]; rfl
  | 2 => rw [c2]; rfl
  | i + 3 =>
    rw [List.getElem?_eq_none (by omega)]
    rfl
end
end Go.Proofs.YtipbfmalacnmkaaGreat
