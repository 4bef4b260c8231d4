/- Small laws on worlds, kept for all texts of this seat: what a slice reads as, and which blocks a step may have turned. No condition. -/
import Derived.WalkKit
import Derived.WalkSpells
import Derived.WalkLawsBesides
import Derived.Lib.Hide
import Derived.Deep.AppendSrc
namespace Go.Proofs.YtipbfmalacnmkaaGreat
open Go.RowKit

/-- Whatever lay there lies there still, but for the blocks of M. -/
structure Ext (M : List Nat) (w w' : World) : Prop where
  os : w'.os = w.os
  tape : w'.tape = w.tape
  output : w'.output = w.output
  size : w.heap.size ≤ w'.heap.size
  block : ∀ k, k < w.heap.size → k ∉ M → w'.heap[k]? = w.heap[k]?

section
variable {M : List Nat} {w w' w'' : World}
theorem Ext.refl (M : List Nat) (w : World) : Ext M w w := ⟨rfl, rfl, rfl, Nat.le_refl _, fun _ _ _ => rfl⟩
theorem Ext.trans (h : Ext M w w') (k : Ext M w' w'') : Ext M w w'' :=
  ⟨k.os.trans h.os, k.tape.trans h.tape, k.output.trans h.output, Nat.le_trans h.size k.size,
   fun i hi hm => (k.block i (Nat.lt_of_lt_of_le hi h.size) hm).trans (h.block i hi hm)⟩
theorem Ext.mono {M' : List Nat} (h : Ext M w w') (hm : ∀ k, k < w.heap.size → k ∈ M → k ∈ M') : Ext M' w w' :=
  ⟨h.os, h.tape, h.output, h.size, fun i hi hn => h.block i hi (fun e => hn (hm i hi e))⟩
theorem Ext.nil (h : Ext [] w w') : Ext M w w' := h.mono (by simp)
theorem Ext.of_below (h : Below w.heap.size w w') : Ext M w w' := ⟨h.os, h.tape, h.output, h.size, fun k hk _ => h.block k hk⟩
theorem Ext.below {B : Nat} (h : Ext M w w') (hB : B ≤ w.heap.size) (hm : ∀ k, k ∈ M → B ≤ k) : Below B w w' :=
  ⟨h.os, h.tape, h.output, h.size, fun k hk => h.block k (by omega) (fun e => by have := hm k e; omega)⟩
theorem Ext.drew (h : Ext M w w') : Ext M w w'.drew := ⟨h.os, h.tape, h.output, h.size, h.block⟩
theorem Ext.drewN (h : Ext M w w') (n : Nat) : Ext M w (w'.drewN n) := ⟨h.os, h.tape, h.output, h.size, h.block⟩
theorem Ext.alloc (h : Ext M w w') (o : Obj) : Ext M w (w'.alloc o) :=
  ⟨h.os, h.tape, h.output, by simp; have := h.size; omega, fun k hk hm => by
    have := h.size
    rw [Below.heap_alloc w' o k (by omega)]; exact h.block k hk hm⟩
theorem Ext.setCell (h : Ext M w w') {p : Addr} (hp : p.block ∈ M ∨ w.heap.size ≤ p.block) (u : Value) : Ext M w (w'.setCell p u) :=
  ⟨h.os, h.tape, h.output, by have := h.size; simpa [World.setCell] using this, fun k hk hm => by
    rw [Below.heap_setCell w' p u k (by rcases hp with hp | hp; exact fun e => hm (e ▸ hp); omega)]; exact h.block k hk hm⟩
theorem Ext.grown {row : Option Nat} (h : Ext M w w') (hg : w'.grownBy w'' row) (hr : ∀ k, row = some k → k ∈ M ∨ w.heap.size ≤ k) : Ext M w w'' :=
  ⟨hg.os.trans h.os, hg.tape.trans h.tape, hg.output.trans h.output, Nat.le_trans h.size hg.size, fun k hk hm => by
    have hs := h.size
    rw [hg.block k (by omega) (fun e => by rcases hr k e.symm with h1 | h1; exact hm h1; omega)]; exact h.block k hk hm⟩
theorem Ext.cell (h : Ext M w w') {p : Addr} (hp : p.block < w.heap.size) (hm : p.block ∉ M) : w'.cell? p = w.cell? p := World.cell?_of_block (h.block _ hp hm)
theorem Ext.frozen (h : Ext M w w') {p : Addr} (hp : p.block < w.heap.size) (hm : p.block ∉ M) : w'.frozen? p = w.frozen? p := World.frozen?_of_block (h.block _ hp hm)
theorem Ext.cellAt (h : Ext M w w') {b o : Nat} (hb : b < w.heap.size) (hm : b ∉ M) : w'.cell? ⟨b, o, none⟩ = w.cell? ⟨b, o, none⟩ := World.cell?_of_block (h.block b hb hm)
theorem Ext.frozenAt (h : Ext M w w') {b o : Nat} (hb : b < w.heap.size) (hm : b ∉ M) : w'.frozen? ⟨b, o, none⟩ = w.frozen? ⟨b, o, none⟩ := World.frozen?_of_block (h.block b hb hm)
/-- All cells of old blocks read as before. -/
theorem Ext.cells (h : Ext [] w w') : (∀ b o, b < w.heap.size → w'.cell? ⟨b, o, none⟩ = w.cell? ⟨b, o, none⟩) ∧ (∀ b o, b < w.heap.size → w'.frozen? ⟨b, o, none⟩ = w.frozen? ⟨b, o, none⟩) :=
  ⟨fun b o hb => h.cell (p := ⟨b, o, none⟩) hb (by simp), fun b o hb => h.frozen (p := ⟨b, o, none⟩) hb (by simp)⟩
theorem Ext.heap (h : Ext [] w w') {k : Nat} {o : Obj} (hk : w.heap[k]? = some o) : w'.heap[k]? = some o :=
  (h.block k (Array.getElem?_eq_some_iff.1 hk).1 (by simp)).trans hk
theorem Ext.cut {M1 : List Nat} {w0 : World} (h0 : Ext M w0 w) (h : Ext M1 w w') (hm : ∀ k, k ∈ M1 → k ∈ M ∨ w0.heap.size ≤ k) : Ext M w0 w' :=
  ⟨h.os.trans h0.os, h.tape.trans h0.tape, h.output.trans h0.output, Nat.le_trans h0.size h.size, fun k hk hn => by
    have := h0.size
    rw [h.block k (by omega) (fun e => by rcases hm k e with h1 | h1; exact hn h1; omega)]; exact h0.block k hk hn⟩
end

theorem cell_set {w : World} {b o : Nat} {v0 : Value} (h : w.cell? ⟨b, o, none⟩ = some v0) (v : Value) : (w.setCell ⟨b, o, none⟩ v).cell? ⟨b, o, none⟩ = some v := World.cell?_setCell_same' _ _ _ (by rw [h]; rfl)
theorem cell_set_ne {w : World} {b o c p : Nat} {x : Option Value} (h : w.cell? ⟨b, o, none⟩ = x) (v : Value) (hne : b ≠ c) : (w.setCell ⟨c, p, none⟩ v).cell? ⟨b, o, none⟩ = x := (World.cell?_of_block (Below.heap_setCell w ⟨c, p, none⟩ v b hne)).trans h
theorem cell_push {w : World} {b o : Nat} {x : Option Value} (h : w.cell? ⟨b, o, none⟩ = x) (ob : Obj) (hb : b < w.heap.size) : (w.alloc ob).cell? ⟨b, o, none⟩ = x := (World.cell?_of_block (Below.heap_alloc w ob b hb)).trans h
/-- Types that the program's own text does not name, and the struct without a name that looks like an entry. -/
def Far (t : TypeId) : Prop := t = 28 ∨ 182 ≤ t
theorem Far.ne {t e : TypeId} (h : Far t) (he : e ≠ 28 ∧ e < 182 := by decide) : t ≠ e := by
  rintro rfl
  rcases h with h | h
  · exact he.1 h
  · exact Nat.lt_irrefl _ (Nat.lt_of_lt_of_le he.2 h)
/-- The types of the blocks in which elements of type e may lie: e, and for entries those, too, that another made. -/
def Kin (e t : TypeId) : Prop := t = e ∨ (e = 29 ∧ Far t)
theorem Kin.refl (e : TypeId) : Kin e e := .inl rfl
theorem Kin.ne {e t e' : TypeId} (h : Kin e t) (h1 : e' ≠ e) (h2 : e = 29 → e' ≠ 28 ∧ e' < 182) : e' ≠ t := by
  rcases h with rfl | ⟨he, hf⟩
  · exact h1
  · exact fun hh => hf.ne (h2 he) hh.symm
/-- A slice value v that reads as the cells xs: elements of type e, sz cells each, in a block below B. -/
def Rd (B : Nat) (w : World) (e : TypeId) (sz : Nat) (v : Value) (n : Nat) (xs : List Value) : Prop :=
  ∃ (a : Option Addr) (cap : Nat), v = .slice a n cap ∧ xs.length = n * sz ∧ n ≤ cap ∧ cap ≤ maxLen ∧
    (n = 0 ∨ ∃ b off cur fz, a = some ⟨b, off, none⟩ ∧ b < B ∧ (∃ t, Kin e t ∧ w.heap[b]? = some (.cells cur t fz)) ∧ (cur.toList.drop off).take (n * sz) = xs)

section
variable {B : Nat} {w w' : World} {e sz : Nat} {v : Value} {n : Nat} {xs : List Value}
theorem Rd.nil (B : Nat) (w : World) (e sz : Nat) : Rd B w e sz (.slice none 0 0) 0 [] := ⟨none, 0, rfl, by simp, Nat.le_refl _, Nat.zero_le _, .inl rfl⟩
theorem Rd.mono {B' : Nat} (h : Rd B w e sz v n xs) (hB : B ≤ B') : Rd B' w e sz v n xs := by
  obtain ⟨a, cap, h1, h2, h3, h4, h5⟩ := h
  exact ⟨a, cap, h1, h2, h3, h4, h5.imp id (fun ⟨b, off, cur, fz, p1, p2, p3⟩ => ⟨b, off, cur, fz, p1, by omega, p3⟩)⟩
theorem Rd.keepT (h : Rd B w e sz v n xs) (hk : ∀ k cur t fz, Kin e t → k < B → w.heap[k]? = some (.cells cur t fz) → w'.heap[k]? = some (.cells cur t fz)) : Rd B w' e sz v n xs := by
  obtain ⟨a, cap, h1, h2, h3, h4, h5⟩ := h
  exact ⟨a, cap, h1, h2, h3, h4, h5.imp id (fun ⟨b, off, cur, fz, p1, p2, ⟨t, k, p3⟩, p4⟩ => ⟨b, off, cur, fz, p1, p2, ⟨t, k, hk b cur t fz k p2 p3⟩, p4⟩)⟩
theorem Rd.keep (h : Rd B w e sz v n xs) (hk : ∀ k cur fz, k < B → w.heap[k]? = some (.cells cur e fz) → w'.heap[k]? = some (.cells cur e fz))
    (hk2 : e = 29 → ∀ t, Far t → ∀ k cur fz, k < B → w.heap[k]? = some (.cells cur t fz) → w'.heap[k]? = some (.cells cur t fz) := by exact fun h => absurd h (by decide)) : Rd B w' e sz v n xs :=
  h.keepT (fun k cur t fz hkin hb hc => by
    rcases hkin with rfl | ⟨he, hf⟩
    · exact hk k cur fz hb hc
    · exact hk2 he t hf k cur fz hb hc)
theorem Rd.ext (h : Rd B w e sz v n xs) (hx : Ext [] w w') : Rd B w' e sz v n xs := h.keepT (fun _ _ _ _ _ _ hk => hx.heap hk)
theorem Rd.extM {M : List Nat} (h : Rd B w e sz v n xs) (hx : Ext M w w') (hm : ∀ k, k ∈ M → ∀ cur fz, w.heap[k]? ≠ some (.cells cur e fz))
    (hm2 : e = 29 → ∀ t, Far t → ∀ k, k ∈ M → ∀ cur fz, w.heap[k]? ≠ some (.cells cur t fz) := by exact fun h => absurd h (by decide)) : Rd B w' e sz v n xs :=
  h.keepT (fun k cur t fz hkin _ hk => (hx.block k (Array.getElem?_eq_some_iff.1 hk).1 (fun hk' => by
    rcases hkin with rfl | ⟨he, hf⟩
    · exact hm k hk' cur fz hk
    · exact hm2 he t hf k hk' cur fz hk)).trans hk)
theorem Rd.below (h : Rd B w e sz v n xs) (hx : Below B w w') : Rd B w' e sz v n xs := h.keepT (fun k _ _ _ _ hk h => (hx.block k hk).trans h)
theorem Rd.len (h : Rd B w e sz v n xs) : xs.length = n * sz := by obtain ⟨_, _, _, h2, _⟩ := h; exact h2
theorem Rd.of_own {base : Nat} (h : w.ownsRow base e sz v n xs) : Rd w.heap.size w e sz v n xs := by
  obtain ⟨h1, h2⟩ := h
  rcases h2 with ⟨rfl, rfl⟩ | ⟨g, cap, cur, rfl, _, hg, hn, hc, _, ht⟩
  · exact ⟨none, 0, rfl, h1, Nat.le_refl _, Nat.zero_le _, .inl rfl⟩
  · exact ⟨_, cap, rfl, h1, hn, hc, .inr ⟨g, 0, cur, _, rfl, (Array.getElem?_eq_some_iff.1 hg).1, ⟨e, Kin.refl e, hg⟩, by simpa using ht⟩⟩

theorem take_drop_getElem? {l xs : List Value} {off m j : Nat} (h : (l.drop off).take m = xs) (hj : j < m) : l[off + j]? = xs[j]? := by
  rw [← h, List.getElem?_take, if_pos hj, List.getElem?_drop]
/-- An element's cell. -/
theorem Rd.cell {a : Option Addr} {cap : Nat} (h : Rd B w e sz (.slice a n cap) n xs) (hn : 0 < n) : ∃ b off, a = some ⟨b, off, none⟩ ∧ b < B ∧ b < w.heap.size ∧ ∀ j, j < n * sz → w.cell? ⟨b, off + j, none⟩ = xs[j]? := by
  obtain ⟨a', cap', h1, h2, h3, h4, h5⟩ := h
  cases h1
  rcases h5 with h5 | ⟨b, off, cur, fz, rfl, hb, ⟨t, _, hh⟩, ht⟩
  · omega
  · refine ⟨b, off, rfl, hb, (Array.getElem?_eq_some_iff.1 hh).1, fun j hj => ?_⟩
    rw [cell_of_row w b (off + j) cur t fz hh, ← take_drop_getElem? ht hj]
    simp
theorem Rd.shape (h : Rd B w e sz v n xs) : ∃ a cap, v = .slice a n cap ∧ n ≤ cap ∧ cap ≤ maxLen := by
  obtain ⟨a, cap, h1, _, h3, h4, _⟩ := h
  exact ⟨a, cap, h1, h3, h4⟩
theorem Rd.src {P : Program} {tx e' : TypeId} (hk : P.underlying tx = some (.slice e')) (h : Rd B w e sz v n xs) (h1 : ∀ u ∈ xs, u.oneCell' = true) : Src P sz tx v n xs w := by
  obtain ⟨a, cap, rfl, h2, h3, h4, h5⟩ := h
  rcases h5 with rfl | ⟨b, off, cur, fz, rfl, hb, ⟨t, _, hh⟩, ht⟩
  · have hx : xs = [] := List.eq_nil_of_length_eq_zero (by simpa using h2)
    subst hx
    cases a with
    | none => exact Src.ofNil w hk cap
    | some a => exact Src.ofSlice w hk a 0 cap [] (by simp) (by simp) (by simp)
  · refine Src.ofSlice w hk _ n cap xs h2 (fun j u hu => ?_) h1
    have hj : j < n * sz := by rw [← h2]; exact (List.getElem?_eq_some_iff.1 hu).1
    have hadd : (⟨b, off, none⟩ : Addr).add j = ⟨b, off + j, none⟩ := by unfold Addr.add; split <;> simp_all
    rw [hadd, cell_of_row w b (off + j) cur t fz hh, ← hu, ← take_drop_getElem? ht hj]
    simp
end

section
variable {P : Program} (w : World)
/-- append onto a row of the call's own, whatever is appended. -/
theorem run_append_own_src (base : Nat) (t tx ty e : TypeId) (i : TypeInfo) (z : Value) (size bytes : Nat) (ht : P.underlying t = some (.slice e)) (hi : P.info? e = some i) (hz : i.zero = some z)
    (hsize : i.size = size) (hby : i.bytes = bytes) (hzs : z.cells.size = size)
    (v : Value) (n : Nat) (xs : List Value) (hown : w.ownsRow base e size v n xs)
    (x : Value) (m : Nat) (news : List Value) (hs : Src P size tx x m news w)
    (h63 : n + m ≤ maxLen) (hbytes : (n + m) * bytes ≤ 140737488355328) (hbase : base ≤ w.heap.size) :
    ∃ v' w', (Builtin.append_ #[t, tx] ty #[v, x]).run P w = .ok v' w' ∧ w'.ownsRow base e size v' (n + m) (xs ++ news) ∧ w.grownBy w' v.ownBlock := by
  subst hsize
  subst hby
  have hsmall : ((n + m : Nat) : Int) ≤ 9223372036854775807 := by simp only [maxLen] at h63; omega
  have hl := hs.newsLen
  have hlen : (xs ++ news).length = (n + m) * i.size := by rw [List.length_append, hown.1, hl, Nat.add_mul]
  have grown : ∀ (old : Nat), old < n + m → ∀ (row : Option Nat),
      (w.drew.alloc (.cells ((xs ++ news).toArray ++ Builtin.zeroCells z.cells (grownCap w (n + m) old e - (n + m))) e)).ownsRow base e i.size
        (.slice (some ⟨w.heap.size, 0, none⟩) (n + m) (grownCap w (n + m) old e)) (n + m) (xs ++ news) ∧
      w.grownBy (w.drew.alloc (.cells ((xs ++ news).toArray ++ Builtin.zeroCells z.cells (grownCap w (n + m) old e - (n + m))) e)) row := by
    intro old ho row
    have hge := grownCap_ge w (n + m) old e
    have hcm : grownCap w (n + m) old e ≤ maxLen := grownCap_le_maxLen w (n + m) old e h63
    refine ⟨⟨hlen, .inr ⟨w.heap.size, _, _, rfl, hbase, heap_alloc_new w.drew _, hge, hcm, ?_, ?_⟩⟩, ⟨rfl, rfl, rfl, by simp, fun k hk _ => Below.heap_alloc w.drew _ k hk⟩⟩
    · simp only [Array.size_append, List.size_toArray, size_zeroCells, hzs, hlen, ← Nat.add_mul]
      congr 1
      omega
    · simp only [Array.toList_append, ← hlen]
      exact List.take_left
  rcases hown.2 with ⟨rfl, rfl⟩ | ⟨g, cap, cur, rfl, hbg, hg, hnc, hcm, hcs, htake⟩
  · have hx : xs = [] := List.eq_nil_of_length_eq_zero (by simpa using hown.1)
    subst hx
    by_cases hm : m = 0
    · subst hm
      have hn : news = [] := List.eq_nil_of_length_eq_zero (by simpa using hl)
      subst hn
      refine ⟨.slice none 0 0, w, ?_, World.ownsRow_nil w base e i.size, ⟨rfl, rfl, rfl, Nat.le_refl _, fun _ _ _ => rfl⟩⟩
      rcases hs.kind with ⟨e', hk⟩ | hk <;> simp [Builtin.append_, run_underlying ht, run_underlying hk, sizeOf, typeInfo, hi, hs.len, hs.cells]
    · have hr := run_append_grow_src (P := P) w t tx ty e i z ht hi hz none 0 0 [] (run_firstCells_none w.drew i.size 0 0 0) x m news hs (by omega) hsmall (growslice_fits (by omega) (by simpa using hbytes))
      have hgr := grown 0 (by omega) (Value.ownBlock (.slice none 0 0))
      exact ⟨_, _, hr, hgr.1, hgr.2⟩
  · by_cases hroom : n + m ≤ cap
    · have hfit : n * i.size + news.length ≤ cur.size := by rw [hl, hcs, ← Nat.add_mul]; exact Nat.mul_le_mul_right _ hroom
      have hst := run_storeCells_at P g (n * i.size) e news 0 cur w hg (by simpa using hfit) hs.one
      simp only [Nat.add_zero] at hst
      have hr : (Builtin.append_ #[t, tx] ty #[.slice (some ⟨g, 0, none⟩) n cap, x]).run P w = .ok (.slice (some ⟨g, 0, none⟩) (n + m) cap) (w.setRow g (cur.toList.take (n * i.size) ++ news ++ cur.toList.drop (n * i.size + news.length)).toArray) := by
        rcases hs.kind with ⟨e', hk⟩ | hk <;> simp [Builtin.append_, run_underlying ht, run_underlying hk, sizeOf, typeInfo, hi, hs.len, hroom, hs.cells, Addr.add_lit, hst]
      refine ⟨_, _, hr, ⟨hlen, .inr ⟨g, cap, _, rfl, hbg, setRow_heap w g cur _ e _ hg, hroom, hcm, ?_, ?_⟩⟩, ⟨rfl, rfl, rfl, by simp, fun k _ hk => setRow_other w g k _ (fun e => hk (by simp [Value.ownBlock, e]))⟩⟩
      · simp only [List.size_toArray, List.length_append, List.length_take, List.length_drop, Array.length_toList]
        omega
      · rw [htake, ← hlen]
        exact List.take_left
    · have holds : ∀ j u, xs[j]? = some u → w.cell? ((⟨g, 0, none⟩ : Addr).add j) = some u := hown.cells (g := g) rfl
      have hr := run_append_grow_src (P := P) w t tx ty e i z ht hi hz (some ⟨g, 0, none⟩) n cap xs (run_firstCells_some w.drew i.size n ⟨g, 0, none⟩ n cap xs hown.1 (by simpa using holds)) x m news hs (by omega) hsmall (growslice_fits (by omega) hbytes)
      have hgr := grown cap (by omega) (Value.ownBlock (.slice (some ⟨g, 0, none⟩) n cap))
      exact ⟨_, _, hr, hgr.1, hgr.2⟩

/-- append onto a slice without spare room: nothing is appended, or a new row is made. -/
theorem run_append_full_src (B t tx ty e : Nat) (i : TypeInfo) (z : Value) (size bytes : Nat) (ht : P.underlying t = some (.slice e)) (hi : P.info? e = some i) (hz : i.zero = some z)
    (hsize : i.size = size) (hby : i.bytes = bytes) (hzs : z.cells.size = size)
    (a : Option Addr) (n : Nat) (xs : List Value) (hrd : Rd B w e size (.slice a n n) n xs) (h1 : ∀ u ∈ xs, u.oneCell' = true)
    (x : Value) (m : Nat) (news : List Value) (hs : Src P size tx x m news w)
    (h63 : n + m ≤ maxLen) (hbytes : (n + m) * bytes ≤ 140737488355328) :
    ∃ v' w', (Builtin.append_ #[t, tx] ty #[.slice a n n, x]).run P w = .ok v' w' ∧ Ext [] w w' ∧
      ((m = 0 ∧ v' = .slice a n n ∧ w' = w) ∨ (0 < m ∧ w'.ownsRow w.heap.size e size v' (n + m) (xs ++ news))) := by
  subst hsize
  subst hby
  have hsmall : ((n + m : Nat) : Int) ≤ 9223372036854775807 := by simp only [maxLen] at h63; omega
  have hl := hs.newsLen
  have hlen : (xs ++ news).length = (n + m) * i.size := by rw [List.length_append, hrd.len, hl, Nat.add_mul]
  by_cases hm : m = 0
  · subst hm
    have hn : news = [] := List.eq_nil_of_length_eq_zero (by simpa using hl)
    subst hn
    refine ⟨_, w, ?_, Ext.refl _ _, .inl ⟨rfl, rfl, rfl⟩⟩
    rcases hs.kind with ⟨e', hk⟩ | hk <;> cases a <;> simp [Builtin.append_, run_underlying ht, run_underlying hk, sizeOf, typeInfo, hi, hs.len, hs.cells, storeCells]
  · have hold : (Builtin.firstCells i.size n (.slice a n n)).run P w.drew = .ok xs.toArray w.drew := by
      exact (hrd.src (P := P) ht h1).cellsD
    have hr := run_append_grow_src (P := P) w t tx ty e i z ht hi hz a n n xs hold x m news hs (by omega) hsmall (growslice_fits (by omega) hbytes)
    have hge := grownCap_ge w (n + m) n e
    have hcm : grownCap w (n + m) n e ≤ maxLen := grownCap_le_maxLen w (n + m) n e h63
    refine ⟨_, _, hr, (Ext.refl _ _).drew.alloc _, .inr ⟨by omega, hlen, .inr ⟨w.heap.size, _, _, rfl, Nat.le_refl _, heap_alloc_new w.drew _, hge, hcm, ?_, ?_⟩⟩⟩
    · simp only [Array.size_append, List.size_toArray, size_zeroCells, hzs, hlen, ← Nat.add_mul]
      congr 1
      omega
    · simp only [Array.toList_append, ← hlen]
      exact List.take_left
end

theorem below_setRow {B : Nat} {a w : World} (h : Below B a w) (g : Nat) (hB : B ≤ g) (cs : Array Value) : Below B a (w.setRow g cs) :=
  h.trans ⟨rfl, rfl, rfl, by simp, fun k hk => setRow_other w g k cs (by omega)⟩
/-- A whole row is stored; the world behind it under a name. -/
theorem wpList_store_row_any {P : Program} {ops : Array Oper} {rest : List Oper} {o : Oper} {a : Act} {w : World} {Q : Exit → Act → World → Prop} (hgd : o.guard = none) (ty : TypeId) (x y : Operand) (ho : o.op = .store ty x y)
    (g : Nat) (cells : Array Value) (hx : a.eval x = .pointer (some ⟨g, 0, none⟩)) (hy : a.eval y = .agg cells)
    (t : TypeId) (old : Array Value) (hg : w.heap[g]? = some (.cells old t (0, 0))) (hi : (P.info? ty).map (·.size) = some cells.size)
    (hold : old.size = cells.size) (h1 : cells.all (·.oneCell') = true)
    (h : ∀ w', w'.heap[g]? = some (.cells cells t (0, 0)) → w.grownBy w' (some g) → wpList P ops Q rest (a.put o.dst undef) w') : wpList P ops Q (o :: rest) a w :=
  wpList_store_row hgd ty x y ho g cells hx hy t old hg hi hold h1 (h _ (setRow_heap _ _ _ _ _ _ hg) ⟨rfl, rfl, rfl, by simp, fun k _ hk => setRow_other w g k _ (fun e => hk (by simp [e]))⟩)

/-- A part of a slice. -/
theorem Rd.part {B : Nat} {w : World} {e sz : Nat} {b off n cap : Nat} {xs : List Value} (h : Rd B w e sz (.slice (some ⟨b, off, none⟩) n cap) n xs) (lo hi cap' : Nat) (h1 : lo ≤ hi) (h2 : hi ≤ n) (hc : hi - lo ≤ cap') (hc2 : cap' ≤ maxLen) :
    Rd B w e sz (.slice (some ⟨b, off + lo * sz, none⟩) (hi - lo) cap') (hi - lo) ((xs.drop (lo * sz)).take ((hi - lo) * sz)) := by
  obtain ⟨a, cap2, e1, e2, e3, e4, e5⟩ := h
  cases e1
  have hm : hi * sz ≤ n * sz := Nat.mul_le_mul_right _ h2
  have hs : (hi - lo) * sz = hi * sz - lo * sz := Nat.sub_mul _ _ _
  have hlo : lo * sz ≤ hi * sz := Nat.mul_le_mul_right _ h1
  refine ⟨_, _, rfl, ?_, hc, hc2, ?_⟩
  · rw [List.length_take, List.length_drop, e2]; omega
  · rcases e5 with e5 | ⟨b', off', cur, fz, p1, p2, p3, p4⟩
    · left; omega
    · right
      cases p1
      refine ⟨b, off + lo * sz, cur, fz, rfl, p2, p3, ?_⟩
      rw [← p4, List.drop_take, List.take_take, List.drop_drop]
      congr 1
      omega

/-- A part of a slice, wherever it lies. -/
theorem Rd.sliced {B : Nat} {w : World} {e sz : Nat} {a : Option Addr} {n cap : Nat} {xs : List Value} (h : Rd B w e sz (.slice a n cap) n xs) (lo hi m : Nat) (h1 : lo ≤ hi) (h2 : hi ≤ n) (hm : hi ≤ m) (hm2 : m ≤ cap) :
    Rd B w e sz (Go.sliced a lo hi m sz) (hi - lo) ((xs.drop (lo * sz)).take ((hi - lo) * sz)) := by
  have hc : cap ≤ maxLen := by obtain ⟨_, _, e1, _, _, e4, _⟩ := h; cases e1; exact e4
  have hx := h.len
  by_cases heq : hi = lo
  · subst heq
    refine ⟨_, _, rfl, by simp, by omega, by omega, .inl (by omega)⟩
  · obtain ⟨a', cap2, e1, e2, e3, e4, e5⟩ := h
    cases e1
    rcases e5 with e5 | ⟨b, off, cur, fz, rfl, p2, p3, p4⟩
    · omega
    · have h0 : Rd B w e sz (.slice (some ⟨b, off, none⟩) n cap) n xs := ⟨_, _, rfl, e2, e3, e4, .inr ⟨b, off, cur, fz, rfl, p2, p3, p4⟩⟩
      have := h0.part lo hi (m - lo) h1 h2 (by omega) (by omega)
      have hadd : (⟨b, off, none⟩ : Addr).add (lo * sz) = ⟨b, off + lo * sz, none⟩ := by unfold Addr.add; split <;> simp_all
      unfold Go.sliced
      rw [if_neg (by omega)]
      simpa [hadd] using this
end Go.Proofs.YtipbfmalacnmkaaGreat
