/- What awake returns. -/
import Derived.Test.YtipbfmalacnmkaaGreatBegin
import Derived.Test.YtipbfmalacnmkaaGreatNext
namespace Go.Proofs.YtipbfmalacnmkaaGreat
open Go.RowKit Go.Shelf

def svA : Sv := ⟨3, 1, [⟨1, ⟨#[97]⟩⟩]⟩
theorem svA_may : mayB svA = true := by decide
def kAw (b : List UInt8) : Dk := ⟨upd (upd (fun _ => none) .wal (some ⟨b, 0⟩)) .wal (some ⟨b, b.length⟩), false, -1⟩
theorem kNew_more (b : List UInt8) : kNew.more b = (0, kAw b) := rfl
theorem kNew_opened : kNew.opened [] Sv.zero = (0, kNew) := rfl
theorem kAw_opened (b : List UInt8) (s : Sv) : (kAw b).opened [] s = (0, kAw b) := rfl
theorem record_zero (s : Sv) : run (record Sv.zero s) = fullOf s := rfl
theorem kNew_kept : kNew.kept 0 Sv.zero svA = (0, kAw (fullOf svA)) := by
  unfold Dk.kept
  have h1 : rewrites 0 Sv.zero svA = false := by
    unfold rewrites
    rw [record_zero]
    simp
    omega
  have h2 : changed Sv.zero svA = true := by decide
  rw [h1, h2]
  exact kNew_more _

def AwakePost (w : World) (e : Ending) (w' : World) : Prop := e = .returned (.bool true) ∧ Below w.heap.size w w'
set_option maxRecDepth 10000 in
set_option maxHeartbeats 2000000 in
theorem awake_calls (w : World) : Calls Tryz.prog 11 #[] w fun e w' => AwakePost w e w' := by
  have hfl : (fullOf svA).length ≤ 573440300 := run_record_le Sv.zero svA svA_may
  have HNW := Lib.hid (New_calls w)
  go_enter Tryz.func11, Tryz.ntmps11
  go_wp2_with fail
  refine HNW.out.mono ?_
  rintro e w1 ⟨rfl, d1, x1⟩
  change DiskAt w1 (w.heap.size + 1) w.heap.size kNew at d1
  have hlt1 := d1.lt
  have hop := Open_calls d1 (by unfold Dk.fuseOk kNew; simp) rfl [] [] Sv.zero Torn.nil rfl (by decide) rfl (by unfold Dk.get kNew Fl.none; simp)
  have hop2 : Calls Tryz.prog 17 #[.pointer (some ⟨w.heap.size + 1, 0, none⟩)] w1 fun e w' => ∃ g lv v, e = .returned (.tuple #[.pointer (some ⟨g, 0, none⟩), .agg #[.int .i64 0, .int .i64 (-1), v], .int .i64 0]) ∧ DiskAt w' (w.heap.size + 1) w.heap.size kNew ∧ Ext [w.heap.size + 1, w.heap.size] w1 w' ∧ w1.heap.size ≤ g ∧ WalRow w' g (w.heap.size + 1) 0 (-1) lv 0 false ∧ RdE w'.heap.size w' lv [] ∧ RdE w'.heap.size w' v [] := by
    refine hop.mono ?_
    rintro e' w' ⟨h1, h2, ⟨h3, _⟩ | ⟨_, g, lv, v, h4, h5, h6, Bq, h7, h8, h9⟩⟩
    · exact absurd rfl h3
    · exact ⟨g, lv, v, h4, h1, h2, h5, h6, Rd.here h8, Rd.here h9.rd⟩
  have HOP := Lib.hid hop2
  clear hop hop2
  go_wp2_with fail
  refine HOP.out.mono ?_
  rintro e w2 ⟨g, lv, v, rfl, d2, x2, hg, hw2, hl2, hv2⟩
  obtain ⟨av, cv, rfl, _, _⟩ := hv2.shape
  simp only [List.length_nil] at hv2 ⊢
  obtain ⟨W3, hW3⟩ : ∃ W3, W3 = w2.alloc (.cells #[.int .i64 0, .int .i64 (-1), .slice av 0 cv] 27) := ⟨_, rfl⟩
  have x23 : Ext [] w2 W3 := by rw [hW3]; exact (Ext.refl [] w2).alloc _
  have r3 : W3.heap[w2.heap.size]? = some (.cells #[.int .i64 0, .int .i64 (-1), .slice av 0 cv] 27 (0, 0)) := by rw [hW3]; exact heap_alloc_new w2 _
  have z3 : W3.heap.size = w2.heap.size + 1 := by rw [hW3]; simp
  obtain ⟨y0, y1, y2, _, _, _⟩ := rowFacts r3
  go_upto_region 3 with fail
  rw [← hW3]
  clear hW3
  go_upto_region 5 with fail
  obtain ⟨W4, hW4⟩ : ∃ W4, W4 = W3.alloc (.cells #[.int .i64 1, .string ⟨#[97]⟩] 29) := ⟨_, rfl⟩
  obtain ⟨W5, hW5⟩ : ∃ W5, W5 = W4.alloc (.cells #[.int .i64 3, .int .i64 1, .slice (some ⟨W3.heap.size, 0, none⟩) 1 1] 27) := ⟨_, rfl⟩
  have x34 : Ext [] W3 W4 := by rw [hW4]; exact (Ext.refl [] W3).alloc _
  have x45 : Ext [] W4 W5 := by rw [hW5]; exact (Ext.refl [] W4).alloc _
  have hrx : RdE W4.heap.size W4 (.slice (some ⟨W3.heap.size, 0, none⟩) 1 1) svA.log := by
    rw [hW4]
    exact ⟨_, 1, rfl, rfl, Nat.le_refl _, by unfold maxLen; omega, .inr ⟨W3.heap.size, 0, _, _, rfl, by simp, ⟨_, Kin.refl _, heap_alloc_new W3 _⟩, rfl⟩⟩
  have z4 : W4.heap.size = W3.heap.size + 1 := by rw [hW4]; simp
  have r5 : W5.heap[W4.heap.size]? = some (.cells #[.int .i64 3, .int .i64 1, .slice (some ⟨W3.heap.size, 0, none⟩) 1 1] 27 (0, 0)) := by rw [hW5]; exact heap_alloc_new W4 _
  have X25 : Ext [] w2 W5 := x23.trans (x34.trans x45)
  have d5 := d2.nil X25
  have hw5 := hw2.ext X25 (by simp)
  have hkp := Keep_calls (was := Sv.zero) d5 (by unfold Dk.fuseOk kNew; simp) rfl hw5 (Rd.here (RdE.ext hl2 X25)) svA (.slice (some ⟨W3.heap.size, 0, none⟩) 1 1) (Rd.here (RdE.ext hrx x45)) svA_may (by omega) (by unfold Dk.get kNew Fl.none; simp)
  rw [z4] at r5
  have hkp2 : Calls Tryz.prog 12 #[.pointer (some ⟨g, 0, none⟩), .agg #[.int .i64 3, .int .i64 1, .slice (some ⟨W3.heap.size, 0, none⟩) 1 1]] W5 fun e w' => e = .returned (.int .i64 0) ∧ DiskAt w' (w.heap.size + 1) w.heap.size (kAw (fullOf svA)) ∧ Ext [w.heap.size + 1, w.heap.size, g] W5 w' := by
    refine hkp.mono ?_
    rintro e' w' ⟨h1, h2, h3, _⟩
    rw [kNew_kept] at h1 h2
    exact ⟨h1, h2, h3⟩
  have HKP := Lib.hid hkp2
  have hs2 := x2.size
  have hs1 := x1.size
  have Z3 := Lib.hid z3
  have Z4 := Lib.hid z4
  have hd2 := d2.lt
  have hb3 : W3.heap.size + 1 ∉ [w.heap.size + 1, w.heap.size, g] := by have := hw2.lt; simp; omega
  have hb2 : w2.heap.size ∉ [w.heap.size + 1, w.heap.size, g] := by have := hw2.lt; simp; omega
  have hrx5 := RdE.ext hrx x45
  have hn29 : ∀ q, q ∈ [w.heap.size + 1, w.heap.size, g] → ∀ cur fz, W5.heap[q]? ≠ some (.cells cur 29 fz) := fun q hq cur fz hc => by
    simp only [List.mem_cons, List.not_mem_nil, or_false] at hq
    rcases hq with rfl | rfl | rfl
    · exact d5.notCells (t := 29) (by decide) _ (by simp) cur fz hc
    · exact d5.notCells (t := 29) (by decide) _ (by simp) cur fz hc
    · exact hw5.notCells (t := 29) (by decide) cur fz hc
  have hnF : ∀ t, Far t → ∀ q, q ∈ [w.heap.size + 1, w.heap.size, g] → ∀ cur fz, W5.heap[q]? ≠ some (.cells cur t fz) := fun t ht q hq cur fz hc => by
    simp only [List.mem_cons, List.not_mem_nil, or_false] at hq
    rcases hq with rfl | rfl | rfl
    · exact d5.notCells (t := t) ht.ne _ (by simp) cur fz hc
    · exact d5.notCells (t := t) ht.ne _ (by simp) cur fz hc
    · exact hw5.notCells (t := t) ht.ne cur fz hc
  clear hkp hkp2 z3 z4 y0 y1 y2
  have r35 := (x34.trans x45).heap r3
  go_upto_region 6 with fail
  rw [← hW4, ← hW5]
  clear hW4 hW5
  obtain ⟨q0, q1, q2, _, _, _⟩ := rowFacts r5
  go_wp2_with fail
  refine HKP.out.mono ?_
  rintro e w6 ⟨rfl, d6, x6⟩
  have r56 := (x6.block _ (Array.getElem?_eq_some_iff.1 r5).1 hb3).trans r5
  have r36 := (x6.block _ (Array.getElem?_eq_some_iff.1 r35).1 hb2).trans r35
  have hrx6 := Rd.extM hrx5 x6 hn29 (fun _ => hnF)
  have hop := Open_calls d6 (by unfold Dk.fuseOk kAw; simp) rfl [record Sv.zero svA] [] svA Torn.nil ⟨svA, step_record (by decide) svA_may, rfl⟩ svA_may (by show fullOf svA = _; simp [runsOf, fullOf]) (by show (fullOf svA).length ≤ _; omega)
  have hop2 : Calls Tryz.prog 17 #[.pointer (some ⟨w.heap.size + 1, 0, none⟩)] w6 fun e w' => ∃ g v, e = .returned (.tuple #[.pointer (some ⟨g, 0, none⟩), .agg #[.int .i64 3, .int .i64 1, v], .int .i64 0]) ∧ Ext [w.heap.size + 1, w.heap.size] w6 w' ∧ RdE w'.heap.size w' v svA.log := by
    refine hop.mono ?_
    rintro e' w' ⟨h1, h2, ⟨h3, _⟩ | ⟨_, g, lv, v, h4, h5, h6, Bq, h7, h8, h9⟩⟩
    · exact absurd rfl h3
    · exact ⟨g, v, h4, h2, h9.rd⟩
  have HOP := Lib.hid hop2
  clear hop hop2 q0 q1 q2
  go_wp2_with fail
  refine HOP.out.mono ?_
  rintro e w7 ⟨g7, v7, rfl, x7, hv7⟩
  obtain ⟨a7, c7, rfl, _, _⟩ := hv7.shape
  have hb3' : W3.heap.size + 1 ∉ [w.heap.size + 1, w.heap.size] := by simp at hb3 ⊢; omega
  have hb2' : w2.heap.size ∉ [w.heap.size + 1, w.heap.size] := by simp at hb2 ⊢; omega
  have r57 := (x7.block _ (Array.getElem?_eq_some_iff.1 r56).1 hb3').trans r56
  have r37 := (x7.block _ (Array.getElem?_eq_some_iff.1 r36).1 hb2').trans r36
  have hrx7 := RdE.diskTurned hrx6 x7 d6
  obtain ⟨q0, q1, q2, _, _, _⟩ := rowFacts r57
  obtain ⟨y0, y1, y2, y3, y4, y5⟩ := rowFacts r37
  have r8 := row3 r37 (.int .i64 3) (.int .i64 1) (.slice a7 svA.log.length c7)
  have hz83 : W3.heap.size + 1 ≠ w2.heap.size := by have := Z3.out; omega
  have r58 : (((w7.setCell ⟨w2.heap.size, 0, none⟩ (.int .i64 3)).setCell ⟨w2.heap.size, 1, none⟩ (.int .i64 1)).setCell ⟨w2.heap.size, 2, none⟩ (.slice a7 svA.log.length c7)).heap[W3.heap.size + 1]? = some (.cells #[.int .i64 3, .int .i64 1, .slice (some ⟨W3.heap.size, 0, none⟩) 1 1] 27 (0, 0)) := (row3_other hz83).trans r57
  have hv8 : RdE w7.heap.size (((w7.setCell ⟨w2.heap.size, 0, none⟩ (.int .i64 3)).setCell ⟨w2.heap.size, 1, none⟩ (.int .i64 1)).setCell ⟨w2.heap.size, 2, none⟩ (.slice a7 svA.log.length c7)) (.slice a7 svA.log.length c7) svA.log :=
    Rd.setOther (Rd.setOther (Rd.setOther hv7 r37 (by decide)) (heap_set (o := 0) (.int .i64 3) r37) (by decide)) (heap_set (o := 1) (.int .i64 1) (heap_set (o := 0) (.int .i64 3) r37)) (by decide)
  have hx8 : RdE W4.heap.size (((w7.setCell ⟨w2.heap.size, 0, none⟩ (.int .i64 3)).setCell ⟨w2.heap.size, 1, none⟩ (.int .i64 1)).setCell ⟨w2.heap.size, 2, none⟩ (.slice a7 svA.log.length c7)) (.slice (some ⟨W3.heap.size, 0, none⟩) 1 1) svA.log :=
    Rd.setOther (Rd.setOther (Rd.setOther hrx7 r37 (by decide)) (heap_set (o := 0) (.int .i64 3) r37) (by decide)) (heap_set (o := 1) (.int .i64 1) (heap_set (o := 0) (.int .i64 3) r37)) (by decide)
  have xx8 : Ext [w2.heap.size] w7 (((w7.setCell ⟨w2.heap.size, 0, none⟩ (.int .i64 3)).setCell ⟨w2.heap.size, 1, none⟩ (.int .i64 1)).setCell ⟨w2.heap.size, 2, none⟩ (.slice a7 svA.log.length c7)) := Ext.row3 (Ext.refl _ w7) (.inl (by simp)) _ _ _
  go_upto_region 8 with fail
  generalize ((w7.setCell ⟨w2.heap.size, 0, none⟩ (.int .i64 3)).setCell ⟨w2.heap.size, 1, none⟩ (.int .i64 1)).setCell ⟨w2.heap.size, 2, none⟩ (.slice a7 svA.log.length c7) = w8 at r8 r58 hv8 hx8 xx8 ⊢
  have hsa := Same_calls (.slice a7 svA.log.length c7) (.slice (some ⟨W3.heap.size, 0, none⟩) 1 1) svA svA w8 (Rd.here hv8) (Rd.here hx8)
  rw [same_of rfl rfl rfl] at hsa
  change Calls Tryz.prog 15 #[.agg #[.int .i64 3, .int .i64 1, .slice a7 svA.log.length c7], .agg #[.int .i64 3, .int .i64 1, .slice (some ⟨W3.heap.size, 0, none⟩) 1 1]] w8 _ at hsa
  have HSA := Lib.hid hsa
  clear hsa q0 q1 q2 y0 y1 y2 y3 y4 y5
  obtain ⟨q0, q1, q2, _, _, _⟩ := rowFacts r58
  obtain ⟨y0, y1, y2, _, _, _⟩ := rowFacts r8
  go_wp2_with fail
  refine HSA.out.mono ?_
  rintro e w9 ⟨rfl, b9⟩
  go_wp2_with fail
  go_ret
  have hs5 := X25.size
  have hs6 := x6.size
  have hs7 := x7.size
  have hs8 := xx8.size
  have B1 : Below w.heap.size w w1 := x1.below (Nat.le_refl _) (by simp)
  have B2 : Below w.heap.size w1 w2 := x2.below (by omega) (by simp)
  have B5 : Below w.heap.size w2 W5 := X25.below (by omega) (by simp)
  have B6 : Below w.heap.size W5 w6 := x6.below (by omega) (by simp; omega)
  have B7 : Below w.heap.size w6 w7 := x7.below (by omega) (by simp)
  have B8 : Below w.heap.size w7 w8 := xx8.below (by omega) (by simp; omega)
  exact ⟨rfl, (((((B1.trans B2).trans B5).trans B6).trans B7).trans B8).trans (b9.mono (by omega))⟩
end Go.Proofs.YtipbfmalacnmkaaGreat
