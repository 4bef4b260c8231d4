/- The disk's changes: Sync, Rename, Remove. -/
import Derived.Test.YtipbfmalacnmkaaGreatDisk2
namespace Go.Proofs.YtipbfmalacnmkaaGreat
open Go.RowKit

set_option maxRecDepth 10000 in
set_option maxHeartbeats 1000000 in
theorem sync1_calls {w : World} {d m : Nat} {k : Dk} (hd : DiskAt w d m k) (x : Nm) (c0 c1 : Nat) (h0 : w.cell? ⟨c0, 0, none⟩ = some (.pointer (some ⟨d, 0, none⟩))) (h1 : w.cell? ⟨c1, 0, none⟩ = some x.str)
    (l0 : c0 < w.heap.size) (l1 : c1 < w.heap.size) (f : Fl) (hf : k.fs x = some f) :
    Calls Tryz.prog 49 #[.pointer (some ⟨c0, 0, none⟩), .pointer (some ⟨c1, 0, none⟩)] w fun e w' => (∃ v, e = .returned v) ∧ DiskAt w' d m (k.put x ⟨f.b, f.b.length⟩) ∧ Ext [m] w w' := by
  have p0 := hd.c0
  have ld := hd.lt
  have lm := hd.ltm
  obtain ⟨g, hrow, hmap, hfs⟩ := id hd
  obtain ⟨a, cap, hv, hrd⟩ := (hfs x).get
  rw [hf] at hv hrd
  simp only [Option.getD_some] at hv hrd
  obtain ⟨ks, hks⟩ : ∃ ks, x.str = .string ks := ⟨_, rfl⟩
  rw [hks] at h1
  have hl1 : (Instr.lookup 46 (.map (some m)) (.string ks) false).run Tryz.prog w.drew = .ok (.agg #[.slice a f.b.length cap, .int .i64 f.last]) w.drew := by
    have := (MapAt.of_heap (w' := w.drew) hmap rfl).look x
    rw [hv, hks] at this
    exact this
  have hl2 : (Instr.lookup 46 (.map (some m)) (.string ks) false).run Tryz.prog (w.alloc (.cells #[.slice none 0 0, .int .i64 0] 80)).drew = .ok (.agg #[.slice a f.b.length cap, .int .i64 f.last]) (w.alloc (.cells #[.slice none 0 0, .int .i64 0] 80)).drew := by
    have := (MapAt.of_heap (w' := (w.alloc (.cells #[.slice none 0 0, .int .i64 0] 80)).drew) hmap (Below.heap_alloc w _ m lm)).look x
    rw [hv, hks] at this
    exact this
  have HF := Lib.hid hf
  clear hf
  go_enter Tryz.func49, Tryz.ntmps49
  go_upto_region 0 with fail
  go_cut [2] (fun s3 wc => s3 = .pointer (some ⟨w.heap.size, 0, none⟩) ∧ Ext [] w wc ∧ wc.heap[w.heap.size]? = some (.cells #[.slice a f.b.length cap, .int .i64 f.last] 80 (0, 0)))
  case first =>
    go_region
    all_goals
      go_wp2_with fail
      go_meet
      refine ⟨rfl, ((Ext.refl [] w).alloc _).drewN 1, heap_alloc_new w _⟩
  case rest =>
    obtain ⟨rfl, hX, hr3⟩ := hcut
    clear hl1 hl2
    have hrd' := hrd.mono (Nat.le_refl _) |>.ext hX
    have k0 : wc.cell? ⟨c0, 0, none⟩ = some (.pointer (some ⟨d, 0, none⟩)) := (hX.cellAt l0 (by simp)).trans h0
    have k1 : wc.cell? ⟨c1, 0, none⟩ = some (.string ks) := (hX.cellAt l1 (by simp)).trans h1
    have k2 : wc.cell? ⟨d, 0, none⟩ = some (.map (some m)) := (hX.cellAt ld (by simp)).trans p0
    have k3 : wc.cell? ⟨w.heap.size, 0, none⟩ = some (.slice a f.b.length cap) := by rw [cell_of_row _ _ _ _ _ _ hr3]; rfl
    have k4 : wc.cell? ⟨w.heap.size, 1, none⟩ = some (.int .i64 f.last) := by rw [cell_of_row _ _ _ _ _ _ hr3]; rfl
    have kf : wc.frozen? ⟨w.heap.size, 1, none⟩ = false := frozen_of_row _ _ _ _ _ hr3
    have hX2 : Ext [] w (wc.setCell ⟨w.heap.size, 1, none⟩ (.int .i64 f.b.length)) := hX.setCell (p := ⟨w.heap.size, 1, none⟩) (.inr (Nat.le_refl _)) _
    have hr5 := heap_set (o := 1) (.int .i64 f.b.length) hr3
    have hrd5 : RdB w.heap.size (wc.setCell ⟨w.heap.size, 1, none⟩ (.int .i64 f.b.length)) (.slice a f.b.length cap) f.b := Rd.setOther hrd' hr3 (by decide)
    go_upto_region 2 with fail
    generalize wc.setCell ⟨w.heap.size, 1, none⟩ (.int .i64 f.b.length) = wd at hX2 hr5 hrd5 ⊢
    have mm : MapAt wd.drew m g := hmap.of_heap (hX2.block m lm (by simp))
    obtain ⟨w6, hst, hm6, hx6⟩ := mm.store x (.agg #[.slice a f.b.length cap, .int .i64 f.b.length])
    have q0 : wd.cell? ⟨c0, 0, none⟩ = some (.pointer (some ⟨d, 0, none⟩)) := (hX2.cellAt l0 (by simp)).trans h0
    have q1 : wd.cell? ⟨c1, 0, none⟩ = some (.string ks) := (hX2.cellAt l1 (by simp)).trans h1
    have q2 : wd.cell? ⟨d, 0, none⟩ = some (.map (some m)) := (hX2.cellAt ld (by simp)).trans p0
    have q3 : wd.cell? ⟨w.heap.size, 0, none⟩ = some (.slice a f.b.length cap) := by rw [cell_of_row _ _ _ _ _ _ hr5]; rfl
    have q4 : wd.cell? ⟨w.heap.size, 1, none⟩ = some (.int .i64 f.b.length) := by rw [cell_of_row _ _ _ _ _ _ hr5]; rfl
    rw [hks] at hst
    clear k0 k1 k2 k3 k4 kf hr3 hX
    go_region
    all_goals
      go_wp2
      go_end0
      refine ⟨⟨_, rfl⟩, DiskAt.stored hd hmap hfs (hX2.drewN 1) hx6 hm6 ⟨a, cap, rfl, RdB.mono hrd5 hX2.size⟩, ((Ext.refl [m] w).cut (M1 := []) (hX2.drewN 1) (by simp)).trans hx6⟩

theorem DiskAt.dropped {w wc w6 : World} {d m : Nat} {k : Dk} {g : Nm → Option Value} {x : Nm} (hd : DiskAt w d m k) (hmap : MapAt w m g) (hfs : ∀ y, FileAt w (g y) (k.fs y)) (hX : Ext [] w wc) (hx : Ext [m] wc w6)
    (hm6 : MapAt w6 m (upd g x none)) : DiskAt w6 d m (k.del x) := by
  have hne := hd.ne
  have hd2 := hd.nil hX
  obtain ⟨_, hrow, _, _⟩ := id hd2
  obtain ⟨es, clock, hblk⟩ := (MapAt.of_heap (w' := wc) hmap (hX.block m hmap.lt (by simp))).block
  have keep : ∀ (q : Nat) (cur : Array Value) (fz : Nat × Nat), wc.heap[q]? = some (.cells cur 5 fz) → w6.heap[q]? = some (.cells cur 5 fz) := fun q cur fz hc => by
    refine (hx.block q (Array.getElem?_eq_some_iff.1 hc).1 ?_).trans hc
    rw [List.mem_singleton]
    rintro rfl
    rw [hblk] at hc
    cases hc
  refine ⟨upd g x none, (hx.block d hd2.lt (by simpa using hne)).trans hrow, hm6, fun y => ?_⟩
  by_cases hy : y = x
  · subst hy
    simp only [Dk.del, upd_same]
    trivial
  · simp only [Dk.del, upd_ne _ _ _ _ hy]
    exact ((hfs y).keep hX.size (fun q cur fz hc => hX.heap hc)).keep hx.size keep

set_option maxRecDepth 10000 in
set_option maxHeartbeats 1000000 in
theorem remove1_calls {w : World} {d m : Nat} {k : Dk} (hd : DiskAt w d m k) (x : Nm) (c0 c1 : Nat) (h0 : w.cell? ⟨c0, 0, none⟩ = some (.pointer (some ⟨d, 0, none⟩))) (h1 : w.cell? ⟨c1, 0, none⟩ = some x.str) :
    Calls Tryz.prog 84 #[.pointer (some ⟨c0, 0, none⟩), .pointer (some ⟨c1, 0, none⟩)] w fun e w' => (∃ v, e = .returned v) ∧ DiskAt w' d m (k.del x) ∧ Ext [m] w w' := by
  have p0 := hd.c0
  obtain ⟨g, hrow, hmap, hfs⟩ := id hd
  obtain ⟨ks, hks⟩ : ∃ ks, x.str = .string ks := ⟨_, rfl⟩
  rw [hks] at h1
  obtain ⟨w6, hdr, hm6, hx6⟩ := MapAt.drop (w := w.drew) (hmap.of_heap rfl) x 0
  rw [hks] at hdr
  go_enter Tryz.func84, Tryz.ntmps84
  go_upto_region 0 with fail
  go_region
  all_goals
    go_wp2
    go_end0
    exact ⟨⟨_, rfl⟩, DiskAt.dropped hd hmap hfs ((Ext.refl [] w).drewN 1) hx6 hm6, ((Ext.refl [m] w).drewN 1).trans hx6⟩

set_option maxRecDepth 10000 in
set_option maxHeartbeats 1000000 in
theorem rename1_calls {w : World} {d m : Nat} {k : Dk} (hd : DiskAt w d m k) (x y : Nm) (c0 c1 c2 : Nat) (h0 : w.cell? ⟨c0, 0, none⟩ = some (.pointer (some ⟨d, 0, none⟩))) (h1 : w.cell? ⟨c1, 0, none⟩ = some x.str) (h2 : w.cell? ⟨c2, 0, none⟩ = some y.str)
    (l0 : c0 < w.heap.size) (l1 : c1 < w.heap.size) (l2 : c2 < w.heap.size) (n0 : c0 ≠ m) (n1 : c1 ≠ m) (n2 : c2 ≠ m) (f : Fl) (hf : k.fs x = some f) :
    Calls Tryz.prog 78 #[.pointer (some ⟨c0, 0, none⟩), .pointer (some ⟨c1, 0, none⟩), .pointer (some ⟨c2, 0, none⟩)] w fun e w' => (∃ v, e = .returned v) ∧ DiskAt w' d m ((k.del x).put y f) ∧ Ext [m] w w' := by
  have p0 := hd.c0
  have ld := hd.lt
  have lm := hd.ltm
  have hne := hd.ne
  obtain ⟨g, hrow, hmap, hfs⟩ := id hd
  obtain ⟨a, cap, hv, hrd⟩ := (hfs x).get
  rw [hf] at hv hrd
  simp only [Option.getD_some] at hv hrd
  obtain ⟨ks, hks⟩ : ∃ ks, x.str = .string ks := ⟨_, rfl⟩
  rw [hks] at h1
  obtain ⟨kt, hkt⟩ : ∃ kt, y.str = .string kt := ⟨_, rfl⟩
  rw [hkt] at h2
  have hl1 : (Instr.lookup 46 (.map (some m)) (.string ks) false).run Tryz.prog w.drew = .ok (.agg #[.slice a f.b.length cap, .int .i64 f.last]) w.drew := by
    have := (MapAt.of_heap (w' := w.drew) hmap rfl).look x
    rw [hv, hks] at this
    exact this
  have hl2 : (Instr.lookup 46 (.map (some m)) (.string ks) false).run Tryz.prog (w.alloc (.cells #[.slice none 0 0, .int .i64 0] 80)).drew = .ok (.agg #[.slice a f.b.length cap, .int .i64 f.last]) (w.alloc (.cells #[.slice none 0 0, .int .i64 0] 80)).drew := by
    have := (MapAt.of_heap (w' := (w.alloc (.cells #[.slice none 0 0, .int .i64 0] 80)).drew) hmap (Below.heap_alloc w _ m lm)).look x
    rw [hv, hks] at this
    exact this
  have HF := Lib.hid hf
  clear hf
  go_enter Tryz.func78, Tryz.ntmps78
  go_upto_region 0 with fail
  go_cut [3] (fun s3 wc => s3 = .pointer (some ⟨w.heap.size, 0, none⟩) ∧ Ext [] w wc ∧ wc.heap[w.heap.size]? = some (.cells #[.slice a f.b.length cap, .int .i64 f.last] 80 (0, 0)))
  case first =>
    go_region
    all_goals
      go_wp2_with fail
      go_meet
      refine ⟨rfl, ((Ext.refl [] w).alloc _).drewN 1, heap_alloc_new w _⟩
  case rest =>
    obtain ⟨rfl, hX, hr3⟩ := hcut
    clear hl1 hl2
    have k0 : wc.cell? ⟨c0, 0, none⟩ = some (.pointer (some ⟨d, 0, none⟩)) := (hX.cellAt l0 (by simp)).trans h0
    have k1 : wc.cell? ⟨c1, 0, none⟩ = some (.string ks) := (hX.cellAt l1 (by simp)).trans h1
    have k2 : wc.cell? ⟨d, 0, none⟩ = some (.map (some m)) := (hX.cellAt ld (by simp)).trans p0
    have mm : MapAt wc.drew m g := hmap.of_heap (hX.block m lm (by simp))
    obtain ⟨w6, hdr, hm6, hx6⟩ := mm.drop x 0
    rw [hks] at hdr
    have D6 := DiskAt.dropped hd hmap hfs (hX.drewN 1) hx6 hm6
    have X6 : Ext [m] w w6 := ((Ext.refl [m] w).cut (M1 := []) (hX.drewN 1) (by simp)).trans hx6
    have q0 : w6.cell? ⟨c0, 0, none⟩ = some (.pointer (some ⟨d, 0, none⟩)) := (X6.cellAt l0 (by simpa using n0)).trans h0
    have q1 : w6.cell? ⟨c2, 0, none⟩ = some (.string kt) := (X6.cellAt l2 (by simpa using n2)).trans h2
    have q2 : w6.cell? ⟨d, 0, none⟩ = some (.map (some m)) := D6.c0
    have r6 : w6.heap[w.heap.size]? = some (.cells #[.slice a f.b.length cap, .int .i64 f.last] 80 (0, 0)) := (hx6.block w.heap.size (Array.getElem?_eq_some_iff.1 hr3).1 (by simp; omega)).trans hr3
    have q3 : w6.cell? ⟨w.heap.size, 0, none⟩ = some (.slice a f.b.length cap) := by rw [cell_of_row _ _ _ _ _ _ r6]; rfl
    have q4 : w6.cell? ⟨w.heap.size, 1, none⟩ = some (.int .i64 f.last) := by rw [cell_of_row _ _ _ _ _ _ r6]; rfl
    have v6 : RdB w.heap.size w6 (.slice a f.b.length cap) f.b := Rd.extM hrd X6 (fun q hq cur fz hc => by
      rw [List.mem_singleton] at hq
      subst hq
      obtain ⟨es, clock, hblk⟩ := hmap.block
      rw [hblk] at hc
      cases hc)
    go_upto_region 1 with fail
    go_cut [] (fun wc2 => wc2 = w6)
    case first =>
      go_region
      all_goals
        go_wp2_with fail
        go_meet
        rfl
    case rest =>
      subst hcut
      obtain ⟨g', _, hmap', hfs'⟩ := id D6
      have mm' : MapAt wc.drew m g' := hmap'.of_heap rfl
      obtain ⟨w7, hst, hm7, hx7⟩ := mm'.store y (.agg #[.slice a f.b.length cap, .int .i64 f.last])
      rw [hkt] at hst
      go_upto_region 2 with fail
      go_region
      all_goals
        go_wp2
        go_end0
        exact ⟨⟨_, rfl⟩, DiskAt.stored D6 hmap' hfs' ((Ext.refl [] wc).drewN 1) hx7 hm7 ⟨a, cap, rfl, RdB.mono v6 X6.size⟩, (X6.drewN 1).trans hx7⟩
end Go.Proofs.YtipbfmalacnmkaaGreat
