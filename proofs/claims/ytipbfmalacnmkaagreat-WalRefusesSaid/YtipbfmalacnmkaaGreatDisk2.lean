/- The disk's changes: what the deeds behind Append, Sync, Rename and Remove do. -/
import Derived.Test.YtipbfmalacnmkaaGreatDisk1
namespace Go.Proofs.YtipbfmalacnmkaaGreat
open Go.RowKit

def Fl.none : Fl := ⟨[], 0⟩
theorem FileAt.get {w : World} {v : Option Value} {f : Option Fl} (h : FileAt w v f) : FileV w (v.getD (.agg #[.slice none 0 0, .int .i64 0])) (f.getD Fl.none) := by
  cases v <;> cases f <;> first | exact h.elim | exact h | exact ⟨none, 0, rfl, Rd.nil _ _ _ _⟩
def Dk.put (k : Dk) (x : Nm) (f : Fl) : Dk := { k with fs := upd k.fs x (some f) }
def Dk.del (k : Dk) (x : Nm) : Dk := { k with fs := upd k.fs x none }
theorem step_append_full {ops : Array Oper} {o : Oper} {a : Act} {w : World} {K : Act → World → Prop} {Q : Exit → Act → World → Prop} {E : Prop}
    (hg : o.guard = none) (s x : Operand) (hop : o.op = Op.call { callee := Callee.builtin Builtin.append, args := #[s, x], argTypes := #[30, 30] })
    (B : Nat) (ad : Option Addr) (l : List UInt8) (hs : a.eval s = .slice ad l.length l.length) (h : RdB B w (.slice ad l.length l.length) l) (xv : Value) (m : List UInt8) (hx : a.eval x = xv) (hm : RdB w.heap.size w xv m)
    (hsz : l.length + m.length ≤ 140737488355328)
    (hK : ∀ a' c' w', Ext [] w w' → RdB w'.heap.size w' (.slice a' (l.length + m.length) c') (l ++ m) → K (a.put o.dst (.slice a' (l.length + m.length) c')) w') :
    if Region.wanted o (yielded ops a.tmps) = true then Oper.wp Tryz.prog o a w K Q else E := by
  have hw : Region.wanted o (yielded ops a.tmps) = true := by simp [Region.wanted, hg]
  rw [if_pos hw]
  obtain ⟨i, hi, hz, h1, h2⟩ := info_parts Tryz.infoB
  obtain ⟨v', w', hr, hx', h3⟩ := run_append_full_src (P := Tryz.prog) w B 30 30 o.type 5 i _ 1 1 Tryz.underlying30 hi hz h1 h2 rfl ad l.length (bvs l) h (bvs_one l) xv m.length (bvs m) hm.src (by unfold maxLen; omega) (by omega)
  unfold Oper.wp
  simp [execOp, hop, resolve, invoke, builtin, hs, hx, hr, Result.andThen]
  rcases h3 with ⟨h3, rfl, rfl⟩ | ⟨_, h3⟩
  · have : m = [] := List.eq_nil_of_length_eq_zero h3
    subst this
    have := hK ad l.length w' hx' (by
      have h4 : RdB w'.heap.size w' (.slice ad l.length l.length) l := by
        obtain ⟨a5, c5, e1, e2, e3, e4, e5⟩ := h
        exact ⟨a5, c5, e1, e2, e3, e4, e5.imp id (fun ⟨b, off, cur, fz, p1, p2, ⟨t, k, p3⟩, p4⟩ => ⟨b, off, cur, fz, p1, (Array.getElem?_eq_some_iff.1 p3).1, ⟨t, k, p3⟩, p4⟩)⟩
      rw [List.append_nil]; exact h4)
    exact this
  · have h4 : OwnB w' w.heap.size v' (l ++ m) := by unfold OwnB; rw [List.length_append, bvs_append]; exact h3
    obtain ⟨a5, c5, rfl, _, _⟩ := h4.rd.shape
    have h5 := h4.rd
    have hK' := hK a5 c5 w' hx'
    rw [← List.length_append] at hK'
    exact hK' h5

theorem DiskAt.stored {w wc w6 : World} {d m : Nat} {k : Dk} {g : Nm → Option Value} {x : Nm} {v : Value} {f : Fl} (hd : DiskAt w d m k) (hmap : MapAt w m g) (hfs : ∀ y, FileAt w (g y) (k.fs y)) (hX : Ext [] w wc) (hx : Ext [m] wc w6)
    (hm6 : MapAt w6 m (upd g x (some v))) (hv : FileV wc v f) : DiskAt w6 d m (k.put x f) := by
  have hne := hd.ne
  have hd2 := hd.nil hX
  obtain ⟨_, hrow, _, _⟩ := id hd2
  obtain ⟨es, clock, hblk⟩ := (MapAt.of_heap (w' := wc) hmap (hX.block m hmap.lt (by simp))).block
  have keep : ∀ (q : Nat) (cur : Array Value) (fz : Nat × Nat), wc.heap[q]? = some (.cells cur 5 fz) → w6.heap[q]? = some (.cells cur 5 fz) := fun q cur fz hc => by
    refine (hx.block q (Array.getElem?_eq_some_iff.1 hc).1 ?_).trans hc
    rw [List.mem_singleton]
    rintro rfl
    rw [hblk] at hc
    cases hc
  refine ⟨upd g x (some v), (hx.block d hd2.lt (by simpa using hne)).trans hrow, hm6, fun y => ?_⟩
  by_cases hy : y = x
  · subst hy
    have : FileAt wc (some v) (some f) := hv
    simp only [Dk.put, upd_same]
    exact this.keep hx.size keep
  · simp only [Dk.put, upd_ne _ _ _ _ hy]
    exact ((hfs y).keep hX.size (fun q cur fz hc => hX.heap hc)).keep hx.size keep

set_option maxRecDepth 10000 in
set_option maxHeartbeats 1000000 in
theorem append1_calls {w : World} {d m : Nat} {k : Dk} (hd : DiskAt w d m k) (x : Nm) (c0 c1 c2 : Nat) (bv : Value) (bs : List UInt8) (h0 : w.cell? ⟨c0, 0, none⟩ = some (.pointer (some ⟨d, 0, none⟩))) (h1 : w.cell? ⟨c1, 0, none⟩ = some x.str) (h2 : w.cell? ⟨c2, 0, none⟩ = some bv)
    (l0 : c0 < w.heap.size) (l1 : c1 < w.heap.size) (l2 : c2 < w.heap.size) (hb : RdB w.heap.size w bv bs) (hsz : ((k.fs x).getD Fl.none).b.length + bs.length ≤ 1099511627776) :
    Calls Tryz.prog 43 #[.pointer (some ⟨c0, 0, none⟩), .pointer (some ⟨c1, 0, none⟩), .pointer (some ⟨c2, 0, none⟩)] w fun e w' => (∃ v, e = .returned v) ∧ DiskAt w' d m (k.put x ⟨((k.fs x).getD Fl.none).b ++ bs, ((k.fs x).getD Fl.none).last⟩) ∧ Ext [m] w w' := by
  have p0 := hd.c0
  have ld := hd.lt
  have lm := hd.ltm
  obtain ⟨ab, cb, rfl, _, _⟩ := hb.shape
  obtain ⟨g, hrow, hmap, hfs⟩ := id hd
  obtain ⟨a, cap, hv, hrd⟩ := (hfs x).get
  have hl := hmap.look x
  rw [hv] at hl
  obtain ⟨ks, hks⟩ : ∃ ks, x.str = .string ks := ⟨_, rfl⟩
  rw [hks] at hl h1
  generalize hf : (k.fs x).getD Fl.none = f at *
  have hl1 : (Instr.lookup 46 (.map (some m)) (.string ks) false).run Tryz.prog w.drew = .ok (.agg #[.slice a f.b.length cap, .int .i64 f.last]) w.drew := by
    have := (MapAt.of_heap (w' := w.drew) hmap rfl).look x
    rw [hv, hks] at this
    exact this
  have hl2 : (Instr.lookup 46 (.map (some m)) (.string ks) false).run Tryz.prog (w.alloc (.cells #[.slice none 0 0, .int .i64 0] 80)).drew = .ok (.agg #[.slice a f.b.length cap, .int .i64 f.last]) (w.alloc (.cells #[.slice none 0 0, .int .i64 0] 80)).drew := by
    have := (MapAt.of_heap (w' := (w.alloc (.cells #[.slice none 0 0, .int .i64 0] 80)).drew) hmap (Below.heap_alloc w _ m lm)).look x
    rw [hv, hks] at this
    exact this
  clear hl
  go_enter Tryz.func43, Tryz.ntmps43
  go_upto_region 0 with fail
  go_cut [3] (fun s3 wc => s3 = .pointer (some ⟨w.heap.size, 0, none⟩) ∧ Ext [] w wc ∧ wc.heap[w.heap.size]? = some (.cells #[.slice a f.b.length cap, .int .i64 f.last] 80 (0, 0)))
  case first =>
    go_region
    all_goals
      go_wp2_with fail
      go_meet
      refine ⟨rfl, ((Ext.refl [] w).alloc _).drewN 1, heap_alloc_new w _⟩
  case rest =>
    obtain ⟨rfl, hX, hr3⟩ := hcut
    clear hl1 hl2
    have hrd' := hrd.mono (Nat.le_refl _) |>.ext hX
    have k0 : wc.cell? ⟨c0, 0, none⟩ = some (.pointer (some ⟨d, 0, none⟩)) := (hX.cellAt l0 (by simp)).trans h0
    have k1 : wc.cell? ⟨c1, 0, none⟩ = some (.string ks) := (hX.cellAt l1 (by simp)).trans h1
    have k2 : wc.cell? ⟨c2, 0, none⟩ = some (.slice ab bs.length cb) := (hX.cellAt l2 (by simp)).trans h2
    have k3 : wc.cell? ⟨w.heap.size, 0, none⟩ = some (.slice a f.b.length cap) := by rw [cell_of_row _ _ _ _ _ _ hr3]; rfl
    have kf : wc.frozen? ⟨w.heap.size, 0, none⟩ = false := frozen_of_row _ _ _ _ _ hr3
    have hc := Clip_calls a cap f.b w.heap.size wc.drew (hrd'.ext ((Ext.refl [] wc).drewN 1))
    have HC := Lib.hid hc
    clear hc
    go_upto_region 1 with fail
    go_cut [14] (fun s14 wd => Ext [] w wd ∧ ∃ a' c', wd.heap[w.heap.size]? = some (.cells #[.slice a' (f.b.length + bs.length) c', .int .i64 f.last] 80 (0, 0)) ∧ RdB wd.heap.size wd (.slice a' (f.b.length + bs.length) c') (f.b ++ bs))
    case first =>
      go_region_law (first
          | (go_simp; go_at_call 44; refine HC.out.mono ?_
             rintro e w2 ⟨a4, rfl, hr4, rfl⟩)
          | (refine step_append_full rfl _ _ rfl w.heap.size a4 f.b rfl hr4 _ bs rfl (RdB.mono (hb.ext (hX.drewN 1)) hX.size) (by omega) ?_
             intro a5 c5 w5 x5 r5
             have r3' := x5.heap hr3
             have k5 : w5.cell? ⟨w.heap.size, 0, none⟩ = some (.slice a f.b.length cap) := (by rw [cell_of_row _ _ _ _ _ _ r3']; rfl)
             have f5 : w5.frozen? ⟨w.heap.size, 0, none⟩ = false := frozen_of_row _ _ _ _ _ r3'))
      all_goals
        go_wp2_with fail
        go_meet
        have hXw : Ext [] w w5 := (hX.drewN 1).cut (M1 := []) x5 (by simp)
        refine ⟨hXw.setCell (p := ⟨w.heap.size, 0, none⟩) (.inr (Nat.le_refl _)) _, a5, c5, heap_set (o := 0) _ r3', RdB.mono (Rd.setOther r5 r3' (by decide)) (by simp [go_sem])⟩
    case rest =>
      obtain ⟨hX2, a5, c5, hr5, hrd5⟩ := hcut
      have mm : MapAt wc.drew m g := hmap.of_heap (hX2.block m lm (by simp))
      obtain ⟨w6, hst, hm6, hx6⟩ := mm.store x (.agg #[.slice a5 (f.b.length + bs.length) c5, .int .i64 f.last])
      have q0 : wc.cell? ⟨c0, 0, none⟩ = some (.pointer (some ⟨d, 0, none⟩)) := (hX2.cellAt l0 (by simp)).trans h0
      have q1 : wc.cell? ⟨c1, 0, none⟩ = some (.string ks) := (hX2.cellAt l1 (by simp)).trans h1
      have q2 : wc.cell? ⟨d, 0, none⟩ = some (.map (some m)) := (hX2.cellAt ld (by simp)).trans p0
      have q3 : wc.cell? ⟨w.heap.size, 0, none⟩ = some (.slice a5 (f.b.length + bs.length) c5) := by rw [cell_of_row _ _ _ _ _ _ hr5]; rfl
      have q4 : wc.cell? ⟨w.heap.size, 1, none⟩ = some (.int .i64 f.last) := by rw [cell_of_row _ _ _ _ _ _ hr5]; rfl
      rw [hks] at hst
      go_upto_region 2 with fail
      go_region
      all_goals
        go_wp2
        go_end0
        refine ⟨⟨_, rfl⟩, DiskAt.stored hd hmap hfs (hX2.drewN 1) hx6 hm6 ⟨a5, c5, by rw [List.length_append], by rw [List.length_append]; exact hrd5⟩, ((Ext.refl [m] w).cut (M1 := []) (hX2.drewN 1) (by simp)).trans hx6⟩
end Go.Proofs.YtipbfmalacnmkaaGreat
