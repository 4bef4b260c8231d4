/- Deeds that came in: how they are read; and what long says of them. -/
import Derived.Test.YtipbfmalacnmkaaGreatCrash
namespace Go.Proofs.YtipbfmalacnmkaaGreat
open Go.RowKit Go.Shelf

structure Dd where
  dn : Int
  term : Int
  data : ByteArray
  n : Int
  kv : Value
  ks : List Int
structure Dd.Ok (B : Nat) (w : World) (x : Dd) : Prop where
  d0 : 0 ≤ x.dn
  d1 : x.dn ≤ 255
  n0 : -9223372036854775808 ≤ x.n
  n1 : x.n ≤ 9223372036854775807
  sz : x.data.size ≤ maxLen
  keep : RdI B w x.kv x.ks
def Dd.agg (x : Dd) : Value := .agg #[.int .u8 x.dn, .int .i64 x.term, .string x.data, .int .i64 x.n, x.kv]
/-- Deeds that can be read, in a block below B. -/
def RdD (B : Nat) (w : World) (v : Value) (l : List Dd) : Prop :=
  ∃ (a : Option Addr) (cap : Nat), v = .slice a l.length cap ∧ l.length ≤ maxLen ∧ (∀ x, x ∈ l → x.Ok B w) ∧ (0 < l.length → ∃ b off, a = some ⟨b, off, none⟩ ∧ b < B ∧ b < w.heap.size ∧ ∀ i x, l[i]? = some x →
    w.cell? ⟨b, off + i * 5, none⟩ = some (.int .u8 x.dn) ∧ w.cell? ⟨b, off + i * 5 + 1, none⟩ = some (.int .i64 x.term) ∧ w.cell? ⟨b, off + i * 5 + 2, none⟩ = some (.string x.data) ∧ w.cell? ⟨b, off + i * 5 + 3, none⟩ = some (.int .i64 x.n) ∧ w.cell? ⟨b, off + i * 5 + 4, none⟩ = some x.kv)
theorem RdD.ext {M : List Nat} {B : Nat} {w w' : World} {v : Value} {l : List Dd} (h : RdD B w v l) (hx : Ext M w w') (hM : ∀ q, q ∈ M → B ≤ q) : RdD B w' v l := by
  obtain ⟨a, cap, h1, h2, h3, h4⟩ := h
  refine ⟨a, cap, h1, h2, fun x hx' => ⟨(h3 x hx').d0, (h3 x hx').d1, (h3 x hx').n0, (h3 x hx').n1, (h3 x hx').sz, (h3 x hx').keep.ext hx hM⟩, fun hn => ?_⟩
  obtain ⟨b, off, h5, h6, h7, h8⟩ := h4 hn
  have hb : b ∉ M := fun hq => by have := hM b hq; omega
  refine ⟨b, off, h5, h6, Nat.lt_of_lt_of_le h7 hx.size, fun i z hz => ?_⟩
  obtain ⟨k0, k1, k2, k3, k4⟩ := h8 i z hz
  exact ⟨(hx.cellAt h7 hb).trans k0, (hx.cellAt h7 hb).trans k1, (hx.cellAt h7 hb).trans k2, (hx.cellAt h7 hb).trans k3, (hx.cellAt h7 hb).trans k4⟩
theorem Below.ext {B : Nat} {w w' : World} (h : Below B w w') : Ext ((List.range w.heap.size).filter (fun q => decide (B ≤ q))) w w' :=
  ⟨h.os, h.tape, h.output, h.size, fun k hk hm => h.block k (by
    rw [List.mem_filter] at hm
    simp only [List.mem_range, decide_eq_true_eq, not_and] at hm
    have := hm hk
    omega)⟩
theorem RdD.below {B : Nat} {w w' : World} {v : Value} {l : List Dd} (h : RdD B w v l) (hx : Below B w w') : RdD B w' v l :=
  h.ext (Below.ext hx) (fun q hq => by
    rw [List.mem_filter] at hq
    simpa using hq.2)
theorem RdI.below {B : Nat} {w w' : World} {v : Value} {l : List Int} (h : RdI B w v l) (hx : Below B w w') : RdI B w' v l :=
  h.ext (Below.ext hx) (fun q hq => by
    rw [List.mem_filter] at hq
    simpa using hq.2)
theorem RdI.mono {B B' : Nat} {w : World} {v : Value} {l : List Int} (h : RdI B w v l) (hB : B ≤ B') : RdI B' w v l := by
  obtain ⟨a, cap, h1, h2, h3⟩ := h
  refine ⟨a, cap, h1, h2, fun hn => ?_⟩
  obtain ⟨b, off, h4, h5, r⟩ := h3 hn
  exact ⟨b, off, h4, by omega, r⟩
theorem RdD.mono {B B' : Nat} {w : World} {v : Value} {l : List Dd} (h : RdD B w v l) (hB : B ≤ B') : RdD B' w v l := by
  obtain ⟨a, cap, h1, h2, h3, h4⟩ := h
  refine ⟨a, cap, h1, h2, fun x hx' => ⟨(h3 x hx').d0, (h3 x hx').d1, (h3 x hx').n0, (h3 x hx').n1, (h3 x hx').sz, (h3 x hx').keep.mono hB⟩, fun hn => ?_⟩
  obtain ⟨b, off, h5, h6, r⟩ := h4 hn
  exact ⟨b, off, h5, by omega, r⟩

def ShortD (l : List Dd) : Prop := l.length ≤ 60 ∧ ∀ x, x ∈ l → x.data.size ≤ 3000
def LongPost (w : World) (l : List Dd) (e : Ending) (w' : World) : Prop := ∃ b : Bool, e = .returned (.bool b) ∧ w = w' ∧ (b = false → ShortD l)
set_option maxRecDepth 10000 in
set_option maxHeartbeats 1000000 in
theorem long_calls {B : Nat} {w : World} {v : Value} {l : List Dd} (h : RdD B w v l) : Calls Tryz.prog 21 #[v] w fun e w' => LongPost w l e w' := by
  obtain ⟨a, cap, rfl, hl, hok, hcells⟩ := h
  have hlen : l.length ≤ 9223372036854775807 := by unfold maxLen at hl; omega
  have HOK := Lib.hid hok
  have HC := Lib.hid hcells
  clear hok hcells
  go_enter Tryz.func21, Tryz.ntmps21
  go_wp2
  go_loop [3] (fun s3 => ∃ i : Nat, i ≤ l.length ∧ i ≤ 60 ∧ s3 = .int .i64 i ∧ Hid (∀ x, x ∈ l.take i → x.data.size ≤ 3000)) (fun s3 => (l.length - intOf s3).toNat)
  case atStart => exact ⟨0, by omega, by omega, rfl, Lib.hid (by simp)⟩
  case round =>
    obtain ⟨i, hi, h60, rfl, hall⟩ := hrel
    by_cases hi2 : i < l.length
    · by_cases hi60 : i < 60
      · obtain ⟨b, off, rfl, _, _, hc⟩ := HC.out (by omega)
        have hx := hc i _ (List.getElem?_eq_getElem hi2)
        have hsz := (HOK.out _ (List.getElem_mem hi2)).sz
        have c2 := hx.2.2.1
        clear hx hc
        have hi0 : (0 : Int) ≤ (i : Int) := by omega
        have hi1 : (i : Int) < (l.length : Int) := by omega
        generalize hX : l[i].data = X at c2 hsz
        have HX := Lib.hid hX
        unfold maxLen at hsz
        clear hX
        by_cases h3 : 3000 < (X.size : Int)
        · go_wp2
          go_ret
          exact ⟨true, rfl, rfl, fun h => by cases h⟩
        · have hd3 : decide (3000 < (X.size : Int)) = false := by simpa using h3
          go_wp2
          go_round
          case rel =>
            refine ⟨i + 1, by omega, by omega, by go_num, Lib.hid fun y hy => ?_⟩
            rw [take_snoc hi2, List.mem_append, List.mem_singleton] at hy
            rcases hy with hy | rfl
            · exact hall.out y hy
            · rw [HX.out]; omega
          case measure => simp [intOf]; omega
      · have hd : decide (60 < (l.length : Int)) = true := by simp; omega
        go_wp2
        go_ret
        exact ⟨true, rfl, rfl, fun h => by cases h⟩
    · obtain rfl : i = l.length := by omega
      have hd : decide (60 < (l.length : Int)) = false := by simp; omega
      go_wp2
      go_ret
      exact ⟨false, rfl, rfl, fun _ => ⟨h60, fun y hy => hall.out y (by rw [List.take_length]; exact hy)⟩⟩
end Go.Proofs.YtipbfmalacnmkaaGreat
