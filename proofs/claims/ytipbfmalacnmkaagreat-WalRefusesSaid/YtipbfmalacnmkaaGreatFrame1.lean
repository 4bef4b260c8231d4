/- What the frame's table, sum and put return. Bytes are at most 2^40 many. -/
import Derived.Test.YtipbfmalacnmkaaGreatCode1
namespace Go.Proofs.YtipbfmalacnmkaaGreat
open Go.RowKit
def iterStep : Nat → Nat → Nat
  | 0, c => c
  | k + 1, c => rowStep (iterStep k c)
theorem iterStep_lt (k c : Nat) (h : c < 4294967296) : iterStep k c < 4294967296 := by
  induction k with
  | zero => exact h
  | succ k ih => exact rowStep_lt _ ih
def tabCells (i : Nat) : Array Value := ((List.range 16).map fun j => Value.int .u32 (if j < i then (tabAt j : Int) else 0)).toArray
theorem tabCells_size (i : Nat) : (tabCells i).size = 16 := by simp [tabCells]
theorem tabCells_get (i j : Nat) (h : j < 16) : (tabCells i)[j]? = some (.int .u32 (if j < i then (tabAt j : Int) else 0)) := by
  simp [tabCells, h]
theorem tabCells_set (i : Nat) (h : i < 16) : (tabCells i).setIfInBounds i (.int .u32 (tabAt i)) = tabCells (i + 1) := by
  apply Array.ext_getElem?
  intro j
  rw [Array.getElem?_setIfInBounds]
  by_cases hj : j < 16
  · rw [tabCells_get _ _ hj, tabCells_get _ _ hj, tabCells_size]
    by_cases e : i = j
    · subst e; simp [hj]
    · rw [if_neg e]; simp [show (j < i + 1) = (j < i) by apply propext; omega]
  · have h1 := tabCells_size i
    have h2 := tabCells_size (i + 1)
    rw [if_neg (by omega), Array.getElem?_eq_none (by omega), Array.getElem?_eq_none (by omega)]
theorem tabCells_one (i : Nat) : (tabCells i).all (·.oneCell') = true := by simp [tabCells, Value.oneCell']
theorem rowStep_bits (c : Nat) (h : c < 4294967296) : bits BinOp.xor IntKind.u32 ((c : Int) / 2) ((3988292384 * bits BinOp.and IntKind.u32 (c : Int) 1) % 4294967296) = ((rowStep c : Nat) : Int) := by
  have h1 : bits BinOp.and IntKind.u32 (c : Int) 1 = ((c % 2 : Nat) : Int) := by
    rw [show (1 : Int) = ((1 : Nat) : Int) from rfl, u32_and_nat _ _ h (by decide), nat_mask1]
  rw [h1, show ((c : Int) / 2) = ((c / 2 : Nat) : Int) by omega, show ((3988292384 * ((c % 2 : Nat) : Int)) % 4294967296) = ((3988292384 * (c % 2) : Nat) : Int) by omega, u32_xor_nat _ _ (by omega) (by omega)]
  rfl
set_option maxRecDepth 10000 in
set_option maxHeartbeats 400000 in
theorem row_calls (w : World) :
    Calls Tryz.prog 88 #[] w fun e w' => e = .returned (.agg (tabCells 16)) ∧ Below w.heap.size w w' := by
  go_enter Tryz.func88, Tryz.ntmps88
  go_wp2
  go_loopw [2, 3, 4] (fun _ _ m wr => ∃ i : Nat, i ≤ 16 ∧ m = .int .i64 i ∧ wr.heap[w.heap.size + 1]? = some (.cells (tabCells i) 122 (0, 0)) ∧ wr.heap[w.heap.size]? = some (.cells (tabCells 0) 122 (0, 0)) ∧ Below w.heap.size w wr) (fun _ _ m wr => (16 - intOf m).toNat)
  case atStart =>
    refine ⟨0, by omega, rfl, ?_, ?_, ((Below.refl _ _).alloc (Nat.le_refl _) _).alloc (by simp) _⟩
    · exact heap_alloc2_new w _ _
    · exact heap_alloc2_old w _ _
  case round =>
    obtain ⟨i, hi, rfl, hb1, hb0, hbl⟩ := hrel
    by_cases hi2 : i < 16
    · have hcell : wr.cell? ⟨w.heap.size + 1, i, none⟩ = some (.int .u32 0) := by
        rw [cell_of_row _ _ _ _ _ _ hb1, tabCells_get _ _ hi2]; simp
      have hfr : wr.frozen? ⟨w.heap.size + 1, i, none⟩ = false := frozen_of_row _ _ _ _ _ hb1
      go_wp2
      go_loop [3, 9] (fun c m => ∃ k : Nat, k ≤ 4 ∧ m = .int .i64 k ∧ c = .int .u32 ((iterStep k i : Nat) : Int)) (fun c m => (4 - intOf m).toNat)
      case atStart => exact ⟨0, by omega, rfl, rfl⟩
      case round =>
        obtain ⟨k, hk, rfl, rfl⟩ := hrel
        have hc := iterStep_lt k i (by omega)
        by_cases hk2 : k < 4
        · go_wp2
          go_round
          case rel => exact ⟨k + 1, by omega, by go_num, by rw [rowStep_bits _ hc]; rfl⟩
          case measure => simp [intOf]; omega
        · obtain rfl : k = 4 := by omega
          go_wp2
          go_roundw
          case rel =>
            refine ⟨i + 1, by omega, by go_num, ?_, ?_, hbl.setCell (by simp) _⟩
            · rw [heap_setCell_same _ _ _ _ _ _ hb1]
              rw [show iterStep 4 i = tabAt i from rfl, tabCells_set i hi2]
            · rw [heap_setCell_other _ _ _ _ (by simp)]; exact hb0
          case measure => simp [intOf]; omega
    · obtain rfl : i = 16 := by omega
      go_wp2_with (first | (refine wpList_load_row rfl 122 _ rfl _ rfl _ _ _ _ hb1 Tryz.underlying122 rfl (by kernel_rfl) ?_) | (refine wpList_store_row rfl 122 _ _ rfl _ _ rfl rfl _ _ hb0 (by kernel_rfl) (by rw [tabCells_size, tabCells_size]) (tabCells_one _) ?_))
      refine bodyPost_ret (results_cell_row (by rfl) _ _ w.heap.size 122 (tabCells 16) (0, 0) _ rfl (setRow_heap _ _ _ _ _ _ hb0) Tryz.underlying122 rfl (by kernel_rfl)) rfl ⟨rfl, below_setRow hbl _ (Nat.le_refl _) _⟩


theorem halfByte_bits (c : Nat) (h : c < 4294967296) : bits BinOp.xor IntKind.u32 ((c : Int) / 16) ((tabAt (c % 16) : Nat) : Int) = ((halfByte c : Nat) : Int) := by
  rw [show ((c : Int) / 16) = ((c / 16 : Nat) : Int) by omega, u32_xor_nat _ _ (by omega) (tabAt_lt _ (by omega))]
  rfl
set_option maxRecDepth 10000 in
set_option maxHeartbeats 400000 in
theorem Sum_calls (v : Value) (l : List UInt8) (w : World) (hv : RdB w.heap.size w v l) (hl : l.length ≤ 1099511627776) :
    Calls Tryz.prog 74 #[v] w fun e w' => e = .returned (.int .u32 (sum32 l : Nat)) ∧ Below w.heap.size w w' := by
  obtain ⟨a, cap, rfl, hcap, hcap2⟩ := hv.shape
  go_enter Tryz.func74, Tryz.ntmps74
  go_wp2_with (first | (go_at_call 88; refine (row_calls _).mono ?_; rintro e w1 ⟨rfl, hb1⟩) | (refine wpList_store_row_any rfl 122 _ _ rfl _ _ rfl rfl _ _ (heap_alloc_new _ _) (by kernel_rfl) (by rfl) (tabCells_one _) ?_; intro W0 hrow hg0))
  have hs1 := hb1.size
  have hB : Below w.heap.size w W0 := (hb1.alloc (by omega) _).grown hg0 (by simp; omega) (fun k hk => by cases hk; omega)
  have hv0 := hv.below hB
  clear hg0 hb1
  generalize w1.heap.size = g at hrow hs1 ⊢
  go_loop [4, 6, 10] (fun c _ m => ∃ i : Nat, i ≤ l.length ∧ m = .int .i64 i ∧ c = .int .u32 (((l.take i).foldl crcByte 4294967295 : Nat) : Int)) (fun _ _ m => (l.length - intOf m).toNat)
  case atStart => exact ⟨0, by omega, rfl, rfl⟩
  case round =>
    obtain ⟨i, hi, rfl, rfl⟩ := hrel
    by_cases hi2 : i < l.length
    · obtain ⟨b, off, rfl, _, _, hcell⟩ := Rd.cell hv0 (by omega)
      have hc1 := hcell i (by omega)
      rw [bvs_get _ _ hi2] at hc1
      clear hcell
      have hC0 := crcFold_lt (l.take i) 4294967295 (by omega)
      have hnx : crcByte ((l.take i).foldl crcByte 4294967295) l[i] = (l.take (i + 1)).foldl crcByte 4294967295 := by
        rw [List.take_succ_eq_append_getElem hi2, List.foldl_append]; rfl
      generalize hC : (l.take i).foldl crcByte 4294967295 = C at hC0 hnx ⊢
      clear hC
      have HN := Lib.hid hnx
      clear hnx
      have hx := l[i].toNat_lt
      obtain ⟨c1, hc1e⟩ : ∃ c1, c1 = C ^^^ l[i].toNat := ⟨_, rfl⟩
      have hc1l : c1 < 4294967296 := by rw [hc1e]; exact xor_lt _ _ hC0 (by omega)
      have e1 : bits BinOp.xor IntKind.u32 (C : Int) (l[i].toNat : Int) = (c1 : Int) := by
        rw [u32_xor_nat _ _ hC0 (by omega), hc1e]
      have HC1 := Lib.hid hc1e
      clear hc1e
      obtain ⟨c2, hc2e⟩ : ∃ c2, c2 = halfByte c1 := ⟨_, rfl⟩
      have hc2l : c2 < 4294967296 := by rw [hc2e]; exact halfByte_lt _ hc1l
      have e2 : bits BinOp.and IntKind.u32 (c1 : Int) 15 = ((c1 % 16 : Nat) : Int) := by
        rw [show (15 : Int) = ((15 : Nat) : Int) from rfl, u32_and_nat _ _ hc1l (by decide), nat_mask4]
      have e3 : bits BinOp.xor IntKind.u32 ((c1 : Int) / 16) ((tabAt (c1 % 16) : Nat) : Int) = (c2 : Int) := by rw [halfByte_bits _ hc1l, hc2e]
      have HC2 := Lib.hid hc2e
      clear hc2e
      have e4 : bits BinOp.and IntKind.u32 (c2 : Int) 15 = ((c2 % 16 : Nat) : Int) := by
        rw [show (15 : Int) = ((15 : Nat) : Int) from rfl, u32_and_nat _ _ hc2l (by decide), nat_mask4]
      have e5 := halfByte_bits c2 hc2l
      have t1 : W0.cell? ⟨g, c1 % 16, none⟩ = some (.int .u32 ((tabAt (c1 % 16) : Nat) : Int)) := by
        rw [cell_of_row _ _ _ _ _ _ hrow, tabCells_get _ _ (by omega), if_pos (by omega)]
      have t2 : W0.cell? ⟨g, c2 % 16, none⟩ = some (.int .u32 ((tabAt (c2 % 16) : Nat) : Int)) := by
        rw [cell_of_row _ _ _ _ _ _ hrow, tabCells_get _ _ (by omega), if_pos (by omega)]
      clear hrow
      go_wp2
      go_round
      case rel => exact ⟨i + 1, by omega, by go_num, by rw [← HN.out]; unfold crcByte; rw [← HC1.out, ← HC2.out]⟩
      case measure => simp [intOf]; omega
    · obtain rfl : i = l.length := by omega
      have hC0 := crcFold_lt (l.take l.length) 4294967295 (by omega)
      go_wp2
      go_ret
      have hmax : IntKind.u32.max = ((4294967295 : Nat) : Int) := by decide
      have hsum : bits BinOp.xor IntKind.u32 IntKind.u32.max ((List.foldl crcByte 4294967295 l : Nat) : Int) = ((sum32 l : Nat) : Int) := by
        rw [hmax, u32_xor_nat _ _ (by decide) (crcFold_lt _ _ (by decide))]; rfl
      exact ⟨by rw [← hsum]; rfl, hB⟩

theorem Src.lit (w : World) (cs : Array Value) (l : List UInt8) (n : Nat) (hn : l.length = n) (h : cs = (bvs l).toArray) : Src Tryz.prog 1 30 (.slice (some ⟨w.heap.size, 0, none⟩) n n) l.length (bvs l) (w.alloc (.cells cs 5)) := by
  subst h
  subst hn
  refine Src.ofSlice _ Tryz.underlying30 _ _ _ _ (by simp) ?_ (bvs_one _)
  intro j v hv
  have hadd : (⟨w.heap.size, 0, none⟩ : Addr).add j = ⟨w.heap.size, j, none⟩ := by unfold Addr.add; split <;> simp_all
  rw [hadd, cell_of_row _ _ _ _ _ _ (heap_alloc_new w _)]
  simpa using hv
theorem put32_cells (n : Nat) (h : n < 4294967296) : #[Value.int .u8 ((n : Int) % 256), .int .u8 ((n : Int) / 256 % 256), .int .u8 ((n : Int) / 65536 % 256), .int .u8 ((n : Int) / 16777216)] = (bvs (put32 n)).toArray := by
  simp [bvs, bv, put32, lo8_toNat]
  omega
set_option maxRecDepth 10000 in
set_option maxHeartbeats 400000 in
theorem put_calls (base : Nat) (v : Value) (l : List UInt8) (n : Nat) (hn : n < 4294967296) (w : World) (hown : OwnB w base v l) (hb : base ≤ w.heap.size) (hl : l.length ≤ 1099511627776) :
    Calls Tryz.prog 73 #[v, .int .u32 n] w fun e w' => ∃ v', e = .returned v' ∧ OwnB w' base v' (l ++ put32 n) ∧ Below base w w' := by
  go_enter Tryz.func73, Tryz.ntmps73
  go_wp2_with (at_builtin; refine wpList_app _ rfl _ _ 30 rfl base _ _ rfl (OwnB.alloc hown _) _ (put32 n) rfl (Src.lit _ _ _ 4 rfl (put32_cells n hn)) (by simp [put32]; omega) (by simp; omega) ?_; intro v1 w1 ho1 hg1)
  go_ret
  exact ⟨_, rfl, ho1, ((Below.refl _ _).alloc hb _).grown hg1 (by simp; omega) (fun j hj => (OwnB.lt hown j hj).1)⟩
end Go.Proofs.YtipbfmalacnmkaaGreat
