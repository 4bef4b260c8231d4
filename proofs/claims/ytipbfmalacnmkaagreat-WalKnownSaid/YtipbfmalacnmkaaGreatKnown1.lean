/- What is as long as may be, and what is one longer: plain; and how their cells are made. -/
import Derived.Test.YtipbfmalacnmkaaGreatEnt
import Derived.Laws.MakeOwn
namespace Go.Proofs.YtipbfmalacnmkaaGreat
open Go.RowKit

theorem ecs_setTerm (L : List Ent) : ∀ (i : Nat) (t : Int) (h : i < L.length), (ecs L).set (i * 2) (.int .i64 t) = ecs (L.set i ⟨t, L[i].data⟩) := by
  induction L with
  | nil => intro i t h; simp at h
  | cons x L ih =>
    intro i t h
    cases i with
    | zero => rfl
    | succ i =>
      rw [show (i + 1) * 2 = i * 2 + 1 + 1 by omega]
      have := ih i t (by simp at h; omega)
      simp only [ecs, List.set_cons_succ, List.getElem_cons_succ, this]
theorem ecs_setData (L : List Ent) : ∀ (i : Nat) (d : ByteArray) (h : i < L.length), (ecs L).set (i * 2 + 1) (.string d) = ecs (L.set i ⟨L[i].term, d⟩) := by
  induction L with
  | nil => intro i d h; simp at h
  | cons x L ih =>
    intro i d h
    cases i with
    | zero => rfl
    | succ i =>
      rw [show (i + 1) * 2 + 1 = i * 2 + 1 + 1 + 1 by omega]
      have := ih i d (by simp at h; omega)
      simp only [ecs, List.set_cons_succ, List.getElem_cons_succ, this]

/-- n entries, the first i of them with their terms. -/
def zl (n i : Nat) : List Ent := (List.range n).map fun j => ⟨if j < i then 1 + (j : Int) else 0, ⟨#[]⟩⟩
theorem zl_len (n i : Nat) : (zl n i).length = n := by simp [zl]
theorem zl_get (n i j : Nat) (h : j < (zl n i).length) : (zl n i)[j] = ⟨if j < i then 1 + (j : Int) else 0, ⟨#[]⟩⟩ := by simp [zl]
theorem zl_step (n i : Nat) : (zl n i).set i ⟨1 + (i : Int), ⟨#[]⟩⟩ = zl n (i + 1) := by
  refine List.ext_getElem (by simp [zl_len]) fun j h1 h2 => ?_
  rw [List.getElem_set]
  by_cases hj : i = j
  · subst hj
    rw [if_pos rfl, zl_get, if_pos (by omega)]
  · rw [if_neg hj, zl_get, zl_get]
    by_cases h3 : j < i
    · rw [if_pos h3, if_pos (by omega)]
    · rw [if_neg h3, if_neg (by omega)]
def zs (n : Nat) : ByteArray := ⟨(List.replicate n (0 : UInt8)).toArray⟩
theorem zs_size (n : Nat) : (zs n).size = n := by
  show (List.replicate n (0 : UInt8)).toArray.size = n
  simp
def fullOn (n m : Nat) : List Ent := (zl n n).set 7 ⟨8, zs m⟩
theorem fullOn_len (n m : Nat) : (fullOn n m).length = n := by simp [fullOn, zl_len]
theorem fullOn_ok (n m : Nat) (hn : n ≤ 4096) (hm : m ≤ 65536) : (fullOn n m).all entOk = true := by
  rw [List.all_eq_true]
  intro e he
  rcases List.mem_or_eq_of_mem_set he with h | rfl
  · obtain ⟨j, hj, rfl⟩ := List.mem_map.1 h
    have hj := List.mem_range.1 hj
    simp only [entOk, if_pos hj, Bool.and_eq_true, decide_eq_true_eq]
    refine ⟨⟨by omega, by omega⟩, ?_⟩
    show 0 ≤ 65536
    omega
  · simp only [entOk, zs_size, Bool.and_eq_true, decide_eq_true_eq]
    omega
def fullV (n m : Nat) : Sv := ⟨1152921504606846976, 6, fullOn n m⟩
theorem fullV_may (n m : Nat) (hn : n ≤ 4096) (hm : m ≤ 65536) : mayB (fullV n m) = true := by
  unfold mayB fullV
  simp only [fullOn_len, fullOn_ok n m hn hm, Bool.and_true, Bool.and_eq_true, decide_eq_true_eq]
  omega
def moreV (n m : Nat) : Sv := ⟨1152921504606846976, 6, fullOn n m ++ [⟨1, ⟨#[]⟩⟩]⟩
theorem moreV_not (n m : Nat) (hn : n = 4096) : mayB (moreV n m) = false := by
  have h : decide ((moreV n m).log.length ≤ 4096) = false := by
    simp only [moreV, List.length_append, fullOn_len, List.length_cons, List.length_nil, decide_eq_false_iff_not]
    omega
  unfold mayB
  rw [h]
  simp
def deepV (n m : Nat) : Sv := ⟨1152921504606846976, 6, (fullOn n m).set 7 ⟨8, zs m ++ ⟨#[120]⟩⟩⟩
theorem deepV_not (n m : Nat) (hn : 7 < n) (hm : m = 65536) : mayB (deepV n m) = false := by
  have h : (deepV n m).log.all entOk = false := by
    rw [List.all_eq_false]
    refine ⟨⟨8, zs m ++ ⟨#[120]⟩⟩, List.mem_set (by rw [fullOn_len]; exact hn) _, ?_⟩
    have : (zs m ++ ⟨#[120]⟩ : ByteArray).size = m + 1 := by
      rw [ByteArray.size_append, zs_size]
      rfl
    simp only [entOk, this, Bool.and_eq_true, decide_eq_true_eq]
    omega
  unfold mayB
  rw [h]
  simp
def highV (n m : Nat) : Sv := ⟨1152921504606846977, 6, fullOn n m⟩
theorem highV_not (n m : Nat) : mayB (highV n m) = false := by
  have h : decide ((highV n m).term ≤ 1152921504606846976) = false := by
    simp [highV]
  unfold mayB
  rw [h]
  simp
def votedV (n m : Nat) : Sv := ⟨1152921504606846976, 7, fullOn n m⟩
theorem votedV_not (n m : Nat) : mayB (votedV n m) = false := by
  have h : decide ((votedV n m).vote ≤ 6) = false := by
    simp [votedV]
  unfold mayB
  rw [h]
  simp
theorem big_of (L : List Ent) (x : Ent) (hx : x ∈ L) (h : ∀ e ∈ L, e.data.size ≤ 65537) : x.data.size ≤ maxLen := by
  have := h x hx
  unfold maxLen
  omega
theorem fullOn_data (n m : Nat) (hm : m ≤ 65536) : ∀ e ∈ fullOn n m, e.data.size ≤ 65537 := by
  intro e he
  rcases List.mem_or_eq_of_mem_set he with h | rfl
  · obtain ⟨j, _, rfl⟩ := List.mem_map.1 h
    show 0 ≤ 65537
    omega
  · rw [zs_size]
    omega
theorem deepV_data (n m : Nat) (hm : m ≤ 65536) : ∀ e ∈ (deepV n m).log, e.data.size ≤ 65537 := by
  intro e he
  rcases List.mem_or_eq_of_mem_set he with h | rfl
  · exact fullOn_data n m hm e h
  · rw [ByteArray.size_append, zs_size]
    show m + 1 ≤ 65537
    omega
theorem moreV_data (n m : Nat) (hm : m ≤ 65536) : ∀ e ∈ (moreV n m).log, e.data.size ≤ 65537 := by
  intro e he
  rcases List.mem_append.1 he with h | h
  · exact fullOn_data n m hm e h
  · rw [List.mem_singleton] at h
    subst h
    show 0 ≤ 65537
    omega

/-! ### the cells that are made -/
theorem madeE (n : Nat) : madeCells #[.int .i64 0, .string ⟨#[]⟩] (n * 2) = (ecs (zl n 0)).toArray := by
  refine Array.ext (by simp [size_madeCells, ecs_length, zl_len]) fun i h1 h2 => ?_
  have hi : i < n * 2 := by simpa [size_madeCells] using h1
  have hg := ecs_get (zl n 0) (i / 2) (by rw [zl_len]; omega)
  rw [zl_get, if_neg (by omega)] at hg
  have hr : (ecs (zl n 0)).toArray[i] = (ecs (zl n 0))[i]'(by rw [ecs_length, zl_len]; exact hi) := by simp
  rw [hr]
  apply Option.some.inj
  rw [← List.getElem?_eq_getElem]
  simp only [madeCells, Array.getElem_map, Array.getElem_range]
  rcases Nat.mod_two_eq_zero_or_one i with h | h
  · have e : i / 2 * 2 = i := by omega
    rw [e] at hg
    rw [hg.1]
    show some (#[Value.int .i64 0, .string ⟨#[]⟩][i % 2]!) = _
    rw [h]
    rfl
  · have e : i / 2 * 2 + 1 = i := by omega
    rw [e] at hg
    rw [hg.2]
    show some (#[Value.int .i64 0, .string ⟨#[]⟩][i % 2]!) = _
    rw [h]
    rfl
theorem madeB (n : Nat) : madeCells #[.int .u8 0] (n * 1) = (bvs (List.replicate n (0 : UInt8))).toArray := by
  refine Array.ext (by simp [size_madeCells]) fun i h1 h2 => ?_
  have hi : i < n := by simpa [size_madeCells] using h1
  have hg := bvs_get (List.replicate n (0 : UInt8)) i (by simpa using hi)
  rw [List.getElem_replicate] at hg
  have hr : (bvs (List.replicate n (0 : UInt8))).toArray[i] = (bvs (List.replicate n (0 : UInt8)))[i]'(by simpa using hi) := by simp
  rw [hr]
  apply Option.some.inj
  rw [← List.getElem?_eq_getElem, hg]
  simp only [madeCells, Array.getElem_map, Array.getElem_range]
  show some (#[Value.int .u8 0][i % 1]!) = _
  rw [Nat.mod_one]
  rfl
theorem mk25 (n : Nat) (hn : n ≤ 4096) (w : World) : (Instr.makeSlice 25 (.int .i64 (n : Int)) (.int .i64 (n : Int))).run Tryz.prog w = .ok (.slice (some ⟨w.heap.size, 0, none⟩) n n) (w.alloc (.cells (ecs (zl n 0)).toArray 29)) := by
  obtain ⟨i, hi, hz, h1, h2⟩ := info_parts Tryz.infoE
  have hr := run_make (P := Tryz.prog) w 25 29 i _ Tryz.underlying25 hi hz .i64 .i64 n n (by omega) (Int.le_refl _) (by rw [h2]; omega) (by omega)
  rw [h1, Int.toNat_natCast] at hr
  have hc : (Value.agg #[.int .i64 0, .string ⟨#[]⟩]).cells = #[.int .i64 0, .string ⟨#[]⟩] := by rfl
  rw [hc, madeE] at hr
  exact hr
theorem mk30 (n : Nat) (hn : n ≤ 65536) (w : World) : (Instr.makeSlice 30 (.int .i64 (n : Int)) (.int .i64 (n : Int))).run Tryz.prog w = .ok (.slice (some ⟨w.heap.size, 0, none⟩) n n) (w.alloc (.cells (bvs (List.replicate n (0 : UInt8))).toArray 5)) := by
  obtain ⟨i, hi, hz, h1, h2⟩ := info_parts Tryz.infoB
  have hr := run_make (P := Tryz.prog) w 30 5 i _ Tryz.underlying30 hi hz .i64 .i64 n n (by omega) (Int.le_refl _) (by rw [h2]; omega) (by omega)
  rw [h1, Int.toNat_natCast] at hr
  have hc : (Value.int .u8 0).cells = #[.int .u8 0] := by rfl
  rw [hc, madeB] at hr
  exact hr
theorem str30 (n : Nat) (hn : n ≤ 65536) (w : World) : (convert 30 9 (.slice (some ⟨w.heap.size, 0, none⟩) n n)).run Tryz.prog (w.alloc (.cells (bvs (List.replicate n (0 : UInt8))).toArray 5)) = .ok (.string (zs n)) (w.alloc (.cells (bvs (List.replicate n (0 : UInt8))).toArray 5)) := by
  have h : RdB (w.alloc (.cells (bvs (List.replicate n (0 : UInt8))).toArray 5)).heap.size (w.alloc (.cells (bvs (List.replicate n (0 : UInt8))).toArray 5)) (.slice (some ⟨w.heap.size, 0, none⟩) n n) (List.replicate n (0 : UInt8)) := by
    refine ⟨some ⟨w.heap.size, 0, none⟩, n, by simp, by simp, by simp, by unfold maxLen; omega, .inr ⟨w.heap.size, 0, (bvs (List.replicate n (0 : UInt8))).toArray, (0, 0), rfl, by simp, by show (w.heap.push _)[w.heap.size]? = _; simp, ?_⟩⟩
    rw [List.drop_zero, List.take_of_length_le (by simp)]
  exact h.toStr
end Go.Proofs.YtipbfmalacnmkaaGreat
