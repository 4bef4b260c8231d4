/- How the arguments are read: numbers, deeds. And the row's last step where a call leaves what lay before it. -/
import Derived.Test.YtipbfmalacnmkaaGreatDeeds
import Derived.ProofKit
import Derived.Deep.Slices
import Derived.Deep.Fields
import Derived.ChangeSame
import Derived.OpenShut
namespace Go.Proofs.YtipbfmalacnmkaaGreat
open Go.RowKit Go.ChangeShapes Go.WideShapes Go.Deep

section
variable {H : Type} {enc : TypeId × Value → H} {P : Program} {w : World} {base : Nat} {spare : Nat → Bool} {held : Bool}
theorem open_slice_fields {t e : TypeId} {fs : Array Field} {fuel : Nat} {cs : List Value} {x : DataW H × List MemPlace} (ht : P.underlying t = some (.slice e)) (he : P.underlying e = some (.struct fs))
    (hone : oneCellFields P fs = true) (hC : P.cellsOf e = fs.size) (h : DataW.trod enc P w base spare held fuel t cs = some x) :
    (cs = [.slice none 0 0] ∧ x = (.nil, [])) ∨
    ∃ (a : Addr) (len cap m : Nat), cs = [.slice (some a) len cap] ∧ base ≤ a.block ∧ len ≤ cap ∧ cap ≤ maxLen ∧ m = (if spare a.block then cap else len) ∧
      ∀ i, i < m → ∃ (ys : List (DataW H × List MemPlace)) (n : Nat), ys.length = fs.size ∧
        ∀ (j : Nat) (f : Field), fs[j]? = some f → ∃ (v : Value) (y : DataW H × List MemPlace), w.cell? (a.add (i * fs.size + j)) = some v ∧ ys[j]? = some y ∧ DataW.trod enc P w base spare held n f.type [v] = some y := by
  rcases open_slice ht h with h0 | ⟨a, len, cap, m, n, D, Pl, hcs, hb, hl, hm, hmm, hx, hi⟩
  · exact .inl h0
  · refine .inr ⟨a, len, cap, m, hcs, hb, hl, hm, hmm, fun i him => ?_⟩
    obtain ⟨cs', hc, ht'⟩ := hi i him
    rw [hC] at hc
    obtain ⟨ys, n', hn', hy, hlen, hyl, hf⟩ := DataW.trod_struct he ht'
    obtain ⟨_, hcl, hat⟩ := World.cells?_some hc
    refine ⟨ys, n', hyl, fun j f hj => ?_⟩
    obtain ⟨ho, hk⟩ := hone_of hone j f hj
    have hjl : j < fs.size := (Array.getElem?_eq_some_iff.1 hj).1
    have hcell := hat j hjl
    have hv : cs'[j]? = some (cs'[j]'(by omega)) := List.getElem?_eq_getElem (by omega)
    have h1 := hf j f hj
    rw [ho, hk] at h1
    have hone' : (cs'.drop j).take 1 = [cs'[j]'(by omega)] := by
      rw [List.drop_eq_getElem_cons (by omega)]
      rfl
    rw [hone'] at h1
    have hys : ys[j]? = some (ys[j]'(by omega)) := List.getElem?_eq_getElem (by omega)
    refine ⟨_, _, ?_, hys, h1.trans hys⟩
    rw [← Go.Deep.add_add, hcell, hv]

theorem post_of_below {f : Func} {s : ChangeSpec} {apart fresh handsOn again : Bool} {W W' : World} {args : Array Value} {v : Value} {ds gs : List (DataW H)} {before pa pv : List MemPlace}
    (hW : DataW.Whole enc P f.params.toList s.vars apart W args.toList ds gs before)
    (hres : ∀ (b : Nat) (sp : Nat → Bool) (hd : Bool), DataW.TrodAll enc P W' b sp hd f.resultTypes.toList (v.resultList f.resultTypes.size) (s.fn H (ds ++ gs)).results [])
    (hargs : ∀ sp : Nat → Bool, (∀ p ∈ before, sp p.block = true) → DataW.TrodAll enc P W' 0 sp true f.params.toList args.toList (s.fn H (ds ++ gs)).args pa)
    (hvars : ∀ sp : Nat → Bool, (∀ p ∈ before, sp p.block = true) → DataW.TrodVars enc P W' sp s.vars (s.fn H (ds ++ gs)).vars pv)
    (hps : before = pa ++ pv) (hb : Below W.heap.size W W')
    (hok : ∀ (j : Nat) (t : TypeId) (r : Value), f.resultTypes[j]? = some t → (v.resultList f.resultTypes.size)[j]? = some r → Value.okWide P W' .any 0 t r) :
    s.post enc P f apart fresh handsOn again W args v W' := by
  have hlt : ∀ p ∈ before, p.block < W.heap.size := fun p hp => hW.lt p hp
  have hold : ∀ p ∈ before, (fun b => decide (b < W.heap.size)) p.block = true := fun p hp => by simpa using hlt p hp
  refine ⟨ds, gs, before, [], pa, pv, hW, hres _ _ _, hargs _ hold, hvars _ hold, World.keptBut_mono (fun p hp => ⟨hp, ?_⟩) (hb.frame (· ∈ before)), fun _ => ?_⟩
  · rw [hps, List.mem_append] at hp
    exact Or.inr hp
  · obtain ⟨_, _, _, _, _, hz, hn⟩ := hW
    refine ⟨hok, _, _, ([] ++ pa) ++ pv, ⟨[] ++ pa, pv, trodAll_append (hargs _ (fun _ _ => rfl)) (hres _ _ _), hvars _ (fun _ _ => rfl), rfl, ?_, ?_⟩, ?_⟩
    · intro b off hp
      have hin : MemPlace.cell b off ∈ before := by rw [hps]; simpa using hp
      rw [hb.frozen (hlt _ hin)]
      exact hz b off hin
    · intro ha
      have := hn ha
      rw [hps] at this
      simpa using this
    · intro p hp _
      rw [hps]
      simpa using hp
end

theorem add_off (b off i : Nat) : (⟨b, off, none⟩ : Addr).add i = ⟨b, off + i, none⟩ := by
  unfold Addr.add
  split <;> simp_all
section
variable {H : Type} {enc : TypeId × Value → H} {W : World}
theorem addr_of_cell {a : Addr} {v : Value} (h : W.cell? (a.add 0) = some v) : ∃ b off, a = ⟨b, off, none⟩ ∧ b < W.heap.size := by
  have e : a.add 0 = a := by unfold Addr.add; rw [if_pos rfl]
  rw [e] at h
  have hs := World.cell?_spot h
  have hb := World.block_lt_of_cell? W _ h
  obtain ⟨b, off, spot⟩ := a
  simp only at hs hb
  subst hs
  exact ⟨b, off, rfl, hb⟩
theorem rdI_of_trod {fuel : Nat} {cs : List Value} {x : DataW H × List MemPlace} (h : DataW.trod enc Tryz.prog W 0 (fun _ => true) true fuel 54 cs = some x) : ∃ v ks, cs = [v] ∧ RdI W.heap.size W v ks := by
  rcases open_ints Tryz.underlying54 Tryz.underlying3 (by kernel_rfl) h with ⟨rfl, _⟩ | ⟨a, len, cap, zs, rfl, _, hlc, hcm, hzl, _, hcell, _⟩
  · exact ⟨_, [], rfl, RdI.nil _ _⟩
  · simp only [if_true] at hzl
    have hl : (zs.take len).length = len := by rw [List.length_take]; omega
    refine ⟨_, zs.take len, rfl, some a, cap, by rw [hl], by omega, fun hn => ?_⟩
    obtain ⟨b, off, rfl, hb⟩ := addr_of_cell (hcell 0 (by omega))
    refine ⟨b, off, rfl, hb, hb, fun i z hz => ?_⟩
    have hi : i < len := by have := (List.getElem?_eq_some_iff.1 hz).1; omega
    have hc := hcell i (by omega)
    rw [add_off] at hc
    rw [List.getElem?_take, if_pos hi] at hz
    simpa [List.getD, hz] using hc
instance : Inhabited Dd := ⟨⟨0, 0, ⟨#[]⟩, 0, .slice none 0 0, []⟩⟩
theorem wf_u8 {n : Int} (h : (Lit.int .u8 n).wf = true) : 0 ≤ n ∧ n ≤ 255 := by
  simp only [Lit.wf, Bool.and_eq_true, IntKind.min, IntKind.max, IntKind.signed, IntKind.bits] at h
  simp at h
  omega
theorem wf_i64 {n : Int} (h : (Lit.int .i64 n).wf = true) : -9223372036854775808 ≤ n ∧ n ≤ 9223372036854775807 := by
  simp only [Lit.wf, Bool.and_eq_true, decide_eq_true_eq, IntKind.min, IntKind.max, IntKind.signed, IntKind.bits] at h
  simp at h
  omega
theorem rdD_of_trod {fuel : Nat} {cs : List Value} {x : DataW H × List MemPlace} (h : DataW.trod enc Tryz.prog W 0 (fun _ => true) true fuel 51 cs = some x) : ∃ v l, cs = [v] ∧ RdD W.heap.size W v l := by
  rcases open_slice_fields Tryz.underlying51 Tryz.underlying56 (by kernel_rfl) (by kernel_rfl) h with ⟨rfl, _⟩ | ⟨a, len, cap, m, rfl, _, hlc, hcm, hm, hall⟩
  · exact ⟨_, [], rfl, none, 0, rfl, Nat.zero_le _, by simp, by simp⟩
  · simp only [if_true] at hm
    subst hm
    have each : ∀ i, i < m → ∃ y : Dd, y.Ok W.heap.size W ∧ W.cell? (a.add (i * 5 + 0)) = some (.int .u8 y.dn) ∧ W.cell? (a.add (i * 5 + 1)) = some (.int .i64 y.term) ∧ W.cell? (a.add (i * 5 + 2)) = some (.string y.data) ∧ W.cell? (a.add (i * 5 + 3)) = some (.int .i64 y.n) ∧ W.cell? (a.add (i * 5 + 4)) = some y.kv := by
      intro i hi
      obtain ⟨ys, n, hlen, hf⟩ := hall i hi
      obtain ⟨v0, y0, c0, _, t0⟩ := hf 0 _ rfl
      obtain ⟨v1, y1, c1, _, t1⟩ := hf 1 _ rfl
      obtain ⟨v2, y2, c2, _, t2⟩ := hf 2 _ rfl
      obtain ⟨v3, y3, c3, _, t3⟩ := hf 3 _ rfl
      obtain ⟨v4, y4, c4, _, t4⟩ := hf 4 _ rfl
      obtain ⟨n0, h0, _, w0⟩ := DataW.trod_int Tryz.underlying5 t0
      obtain ⟨n1, h1, _, w1⟩ := DataW.trod_int Tryz.underlying2 t1
      obtain ⟨s2, h2, _, w2⟩ := DataW.trod_string Tryz.underlying9 t2
      obtain ⟨n3, h3, _, w3⟩ := DataW.trod_int Tryz.underlying3 t3
      obtain ⟨kv, ks, h4, hk⟩ := rdI_of_trod t4
      simp only [List.cons.injEq, and_true] at h0 h1 h2 h3 h4
      subst h0 h1 h2 h3 h4
      exact ⟨⟨n0, n1, s2, n3, _, ks⟩, ⟨(wf_u8 w0).1, (wf_u8 w0).2, (wf_i64 w3).1, (wf_i64 w3).2, w2, hk⟩, c0, c1, c2, c3, c4⟩
    obtain ⟨f, hf⟩ := Go.Deep.choose_lt each
    have hl : ((List.range len).map f).length = len := by simp
    refine ⟨_, (List.range len).map f, rfl, some a, m, by rw [hl], by omega, fun y hy => ?_, fun hn => ?_⟩
    · obtain ⟨i, hi, rfl⟩ := List.mem_map.1 hy
      exact (hf i (by have := List.mem_range.1 hi; omega)).1
    · rw [hl] at hn
      obtain ⟨b, off, rfl, hb⟩ := addr_of_cell (a := a) (hf 0 (by omega)).2.1
      refine ⟨b, off, rfl, hb, hb, fun i z hz => ?_⟩
      rw [List.getElem?_map] at hz
      obtain ⟨i', hi', rfl⟩ := Option.map_eq_some_iff.1 hz
      have hi2 : i < len := by have := (List.getElem?_eq_some_iff.1 hi').1; simpa using this
      have e : i' = i := by
        rw [List.getElem?_range hi2] at hi'
        exact (Option.some.inj hi').symm
      subst e
      obtain ⟨_, k0, k1, k2, k3, k4⟩ := hf i' (by omega)
      rw [add_off] at k0 k1 k2 k3 k4
      exact ⟨k0, k1, k2, k3, k4⟩
end
end Go.Proofs.YtipbfmalacnmkaaGreat
