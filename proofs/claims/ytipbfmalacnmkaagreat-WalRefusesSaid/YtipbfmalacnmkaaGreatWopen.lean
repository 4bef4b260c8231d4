/- The world's open: what is told is what was sure, or what was told perhaps. -/
import Derived.Test.YtipbfmalacnmkaaGreatTidy
namespace Go.Proofs.YtipbfmalacnmkaaGreat
open Go.RowKit Go.Shelf

def WOpen (B : Nat) (w : World) (x : Nat) (k : Dk) (s p : Sv) (sm : Bool) (e : Ending) (w' : World) : Prop :=
  e = .returned (.bool true) ∧ Below B w w' ∧ ((∃ k' s', XOn B w' x k' s' ∧ Told s p sm s' ∧ (k.fuse = -1 → k'.fuse = -1)) ∨ (XOff B w' x s p sm ∧ k.fuse ≠ -1))
theorem same_iff {s t : Sv} : sameB s t = true ↔ s = t := by
  cases s; cases t
  simp [sameB, and_assoc]
theorem OwnE.apart {M : List Nat} {w w' : World} {base : Nat} {v : Value} {L : List Ent} (h : OwnE w base v L) (hx : Ext M w w') (hm : ∀ k, k ∈ M → k < base) : OwnE w' base v L := by
  obtain ⟨h1, h2⟩ := h
  refine ⟨h1, h2.imp id ?_⟩
  rintro ⟨g, cap, cur, h3, h4, h5, r⟩
  exact ⟨g, cap, cur, h3, h4, (hx.block g (Array.getElem?_eq_some_iff.1 h5).1 (fun hg => by have := hm g hg; omega)).trans h5, r⟩
theorem RdE.apart {M : List Nat} {B : Nat} {w w' : World} {v : Value} {L : List Ent} (h : RdE B w v L) (hx : Ext M w w') (hm : ∀ k, k ∈ M → B ≤ k) : RdE B w' v L :=
  Rd.keepT h (fun k cur _ fz _ hk hc => (hx.block k (Array.getElem?_eq_some_iff.1 hc).1 (fun hg => by have := hm k hg; omega)).trans hc)
theorem XRow.setW {w : World} {x d : Nat} {wv sv pv : Value} {s p : Sv} {sm : Bool} (h : XRow w x d wv s sv p pv sm) (v : Value) : XRow (w.setCell ⟨x, 1, none⟩ v) x d v s sv p pv sm := heap_set (o := 1) v h
theorem XRow.setSure {w : World} {x d : Nat} {wv sv pv : Value} {s p : Sv} {sm : Bool} (h : XRow w x d wv s sv p pv sm) (t : Sv) (tv : Value) :
    XRow (((w.setCell ⟨x, 2, none⟩ (.int .i64 t.term)).setCell ⟨x, 3, none⟩ (.int .i64 t.vote)).setCell ⟨x, 4, none⟩ tv) x d wv t tv p pv sm :=
  heap_set (o := 4) tv (heap_set (o := 3) (.int .i64 t.vote) (heap_set (o := 2) (.int .i64 t.term) h))
theorem XRow.setPerhaps {w : World} {x d : Nat} {wv sv pv : Value} {s p : Sv} {sm : Bool} (h : XRow w x d wv s sv p pv sm) (t : Sv) (tv : Value) :
    XRow (((w.setCell ⟨x, 5, none⟩ (.int .i64 t.term)).setCell ⟨x, 6, none⟩ (.int .i64 t.vote)).setCell ⟨x, 7, none⟩ tv) x d wv s sv t tv sm :=
  heap_set (o := 7) tv (heap_set (o := 6) (.int .i64 t.vote) (heap_set (o := 5) (.int .i64 t.term) h))
theorem XRow.setSome {w : World} {x d : Nat} {wv sv pv : Value} {s p : Sv} {sm : Bool} (h : XRow w x d wv s sv p pv sm) (b : Bool) : XRow (w.setCell ⟨x, 8, none⟩ (.bool b)) x d wv s sv p pv b := heap_set (o := 8) (.bool b) h
/-- Entries read as before where the disk has turned. -/
theorem RdE.diskTurned {B : Nat} {w w' : World} {d m : Nat} {k : Dk} {v : Value} {L : List Ent} (h : RdE B w v L) (hx : Ext [d, m] w w') (hd : DiskAt w d m k) : RdE B w' v L :=
  Rd.extM h hx (fun q hq => hd.notCells (t := 29) (by decide) q hq) (fun _ t ht q hq => hd.notCells (t := t) ht.ne q hq)
theorem RdE.setOther {B : Nat} {w : World} {b o e' : Nat} {v u : Value} {L : List Ent} {cs : Array Value} {fz : Nat × Nat} (h : RdE B w v L) (hb : w.heap[b]? = some (.cells cs e' fz)) (he : e' ≠ 29) (he2 : e' ≠ 28 ∧ e' < 182 := by decide) : RdE B (w.setCell ⟨b, o, none⟩ u) v L := Rd.setOther h hb he (fun _ => he2)
theorem DiskAt.setX {w : World} {x d d' m o : Nat} {k : Dk} {wv sv pv u : Value} {s p : Sv} {sm : Bool} (hd : DiskAt w d m k) (h : XRow w x d' wv s sv p pv sm) : DiskAt (w.setCell ⟨x, o, none⟩ u) d m k :=
  hd.ext ((Ext.refl [x] w).setCell (p := ⟨x, o, none⟩) (.inl (by simp)) u) (fun q hq => by
    rw [List.mem_singleton] at hq
    subst hq
    exact ⟨(h.ne_disk hd).1, (h.ne_disk hd).2, h.notCells (t := 5) (by decide)⟩)
theorem RdE.setX {B : Nat} {w : World} {x d o : Nat} {wv sv pv u v : Value} {s p : Sv} {sm : Bool} {L : List Ent} (hr : RdE B w v L) (h : XRow w x d wv s sv p pv sm) : RdE B (w.setCell ⟨x, o, none⟩ u) v L := Rd.setOther hr h (by decide)

set_option maxRecDepth 10000 in
set_option maxHeartbeats 2000000 in
theorem open_fails {B x d m : Nat} {w : World} {k k' : Dk} {wv sv pv : Value} {s p : Sv} {sm : Bool} (h : XBase B w x d m k wv s sv p pv sm)
    (hop : Calls Tryz.prog 17 #[.pointer (some ⟨d, 0, none⟩)] w fun e w' => e = .returned (.tuple #[.pointer none, .agg #[.int .i64 0, .int .i64 0, .slice none 0 0], .int .i64 250]) ∧ DiskAt w' d m k' ∧ Ext [d, m] w w')
    (hoff : k'.off = true) (hb : Base k') (hH : Holds k' (Told s p sm)) (hfu : k.fuse ≠ -1) : Calls Tryz.prog 9 #[.pointer (some ⟨x, 0, none⟩)] w fun e w' => WOpen B w x k s p sm e w' := by
  have c0 := h.row.facts.c0
  have lx := h.row.lt
  have HOP := Lib.hid hop
  have H := Lib.hid h
  clear hop
  go_enter Tryz.func9, Tryz.ntmps9
  go_upto_region 2 with (go_at_call 17; refine HOP.out.mono ?_; rintro e w2 ⟨rfl, d2, x2⟩)
  have hxn : x ∉ [d, m] := by simp only [List.mem_cons, List.not_mem_nil, or_false, not_or]; exact H.out.row.ne_disk H.out.disk
  have row2 := H.out.row.ext x2 hxn
  have x2a : Ext [] w2 (w2.alloc (.cells #[.int .i64 0, .int .i64 0, .slice none 0 0] 27)) := (Ext.refl [] w2).alloc _
  have row3 := row2.ext x2a (by simp)
  have box3 : (w2.alloc (.cells #[.int .i64 0, .int .i64 0, .slice none 0 0] 27)).heap[w2.heap.size]? = some (.cells #[.int .i64 0, .int .i64 0, .slice none 0 0] 27 (0, 0)) := heap_alloc_new w2 _
  have d3 := d2.nil x2a
  have hs2 := x2.size
  have rs3 : RdE w.heap.size (w2.alloc (.cells #[.int .i64 0, .int .i64 0, .slice none 0 0] 27)) sv s.log := RdE.ext (RdE.diskTurned H.out.rs x2 H.out.disk) x2a
  have rp3 : RdE w.heap.size (w2.alloc (.cells #[.int .i64 0, .int .i64 0, .slice none 0 0] 27)) pv p.log := RdE.ext (RdE.diskTurned H.out.rp x2 H.out.disk) x2a
  have X3 : Ext [d, m] w (w2.alloc (.cells #[.int .i64 0, .int .i64 0, .slice none 0 0] 27)) := x2.alloc _
  have hz3 : w2.heap.size < (w2.alloc (.cells #[.int .i64 0, .int .i64 0, .slice none 0 0] 27)).heap.size := by simp
  generalize w2.alloc (.cells #[.int .i64 0, .int .i64 0, .slice none 0 0] 27) = w3 at *
  have row4 := row3.setW (.pointer none)
  have X4 : Ext [d, m, x] w (w3.setCell ⟨x, 1, none⟩ (.pointer none)) := (X3.mono (by simp; omega)).setCell (p := ⟨x, 1, none⟩) (.inl (by simp)) _
  have d4 : DiskAt (w3.setCell ⟨x, 1, none⟩ (.pointer none)) d m k' := d3.setX row3
  have rs4 : RdE w.heap.size (w3.setCell ⟨x, 1, none⟩ (.pointer none)) sv s.log := rs3.setX row3
  have rp4 : RdE w.heap.size (w3.setCell ⟨x, 1, none⟩ (.pointer none)) pv p.log := rp3.setX row3
  have hxz : x ≠ w2.heap.size := by omega
  have box4 := (Below.heap_setCell w3 ⟨x, 1, none⟩ (.pointer none) w2.heap.size hxz.symm).trans box3
  have p1 := row3.facts.c1
  have f1 := row3.facts.fz 1
  go_upto_region 3 with fail
  generalize w3.setCell ⟨x, 1, none⟩ (.pointer none) = w4 at *
  obtain ⟨y0, y1, y2, _, _, _⟩ := rowFacts box4
  have c0' := row4.facts.c0
  have hof := Off_calls d4
  rw [hoff] at hof
  have hsa := Same_calls (.slice none 0 0) (.slice none 0 0) ⟨0, 0, []⟩ ⟨0, 0, []⟩ w4 (RdE.nil _ _) (RdE.nil _ _)
  rw [same_of rfl rfl rfl] at hsa
  have HOF := Lib.hid hof
  have HSA := Lib.hid hsa
  have X4h := Lib.hid X4
  clear hof hsa X4 p1 f1
  go_wp2_with (first
    | (go_at_call 27; refine HOF.out.mono ?_; rintro e w5 ⟨rfl, rfl⟩)
    | (go_at_call 15; refine HSA.out.mono ?_; rintro e w6 ⟨rfl, b6⟩))
  go_ret
  have x6 : Ext [] w4 w6 := Ext.of_below b6
  have hB := H.out
  have hws := X4h.out.size
  refine ⟨rfl, (X4h.out.cut (M1 := []) x6 (by simp)).below (by have := hB.bx; omega) (by simp; exact ⟨hB.bd, hB.bm, hB.bx⟩), .inr ⟨⟨d, m, k', sv, pv, ?_, hoff, hH⟩, hfu⟩⟩
  exact XBase.nil ⟨row4, d4, hb, hB.bx, hB.bd, hB.bm, RdE.mono rs4 hws, RdE.mono rp4 hws, hB.ms⟩ x6
end Go.Proofs.YtipbfmalacnmkaaGreat
