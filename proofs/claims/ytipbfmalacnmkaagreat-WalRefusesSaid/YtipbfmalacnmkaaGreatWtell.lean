/- The world's open where it tells. -/
import Derived.Test.YtipbfmalacnmkaaGreatWopen
import Derived.Lib.QuietBelow
import Derived.BigQuiet
namespace Go.Proofs.YtipbfmalacnmkaaGreat
open Go.RowKit Go.Shelf

/-- What Open hands back where it tells s. -/
def Told17 (w : World) (d m : Nat) (k' : Dk) (s : Sv) (e : Ending) (w' : World) : Prop :=
  ∃ g lv v Bq, e = .returned (.tuple #[.pointer (some ⟨g, 0, none⟩), .agg #[.int .i64 s.term, .int .i64 s.vote, v], .int .i64 0]) ∧ DiskAt w' d m k' ∧ Ext [d, m] w w' ∧ w.heap.size ≤ g ∧ WalRow w' g d s.term s.vote lv (k'.get .wal).b.length false ∧ g < Bq ∧ RdE Bq w' lv s.log ∧ OwnE w' Bq v s.log
theorem WalRow.setX {w : World} {x d d' g sz o : Nat} {T V : Int} {lv wv sv pv u : Value} {s p : Sv} {sm down : Bool} (hw : WalRow w g d T V lv sz down) (h : XRow w x d' wv s sv p pv sm) : WalRow (w.setCell ⟨x, o, none⟩ u) g d T V lv sz down :=
  (Below.heap_setCell w ⟨x, o, none⟩ u g (h.ne_wal hw).symm).trans hw
theorem OwnE.setX {w : World} {x d' o base : Nat} {wv sv pv u v : Value} {s p : Sv} {sm : Bool} {L : List Ent} (ho : OwnE w base v L) (h : XRow w x d' wv s sv p pv sm) : OwnE (w.setCell ⟨x, o, none⟩ u) base v L :=
  OwnE.extM ho ((Ext.refl [x] w).setCell (p := ⟨x, o, none⟩) (.inl (by simp)) u) (fun q hq => by
    rw [List.mem_singleton] at hq
    subst hq
    exact h.notCells (t := 29) (by decide))
/-- A row that is the call's own, as a block. -/
theorem OwnE.row {w : World} {base : Nat} {v : Value} {L : List Ent} (h : OwnE w base v L) (hn : 0 < L.length) : ∃ b cap cur, v = .slice (some ⟨b, 0, none⟩) L.length cap ∧ base ≤ b ∧ w.heap[b]? = some (.cells cur 29 (0, 0)) ∧ L.length * 2 ≤ cur.size := by
  obtain ⟨h1, h2⟩ := h
  rcases h2 with ⟨_, h3⟩ | ⟨g, cap, cur, h3, h4, h5, h6, h7, h8, h9⟩
  · omega
  · exact ⟨g, cap, cur, h3, h4, h5, by rw [h8]; exact Nat.mul_le_mul_right _ h6⟩
theorem Rd.here {B : Nat} {w : World} {e sz : Nat} {v : Value} {n : Nat} {xs : List Value} (h : Rd B w e sz v n xs) : Rd w.heap.size w e sz v n xs := by
  obtain ⟨a, cap, h1, h2, h3, h4, h5⟩ := h
  exact ⟨a, cap, h1, h2, h3, h4, h5.imp id (fun ⟨b, off, cur, fz, p1, _, ⟨t, k, p3⟩, p4⟩ => ⟨b, off, cur, fz, p1, (Array.getElem?_eq_some_iff.1 p3).1, ⟨t, k, p3⟩, p4⟩)⟩
/-- Entries that are written over: of what lay in w0 only their row has turned. -/
def OverM (M : List Nat) (v : Value) (n : Nat) (w0 w : World) : Prop :=
  Ext M w0 w ∧ (0 < n → ∃ b cap cur, M = [b] ∧ v = .slice (some ⟨b, 0, none⟩) n cap ∧ w.heap[b]? = some (.cells cur 29 (0, 0)) ∧ n * 2 ≤ cur.size)
theorem overM_start {w : World} {base : Nat} {v : Value} {L : List Ent} (h : OwnE w base v L) : ∃ M, OverM M v L.length w w ∧ ∀ q, q ∈ M → base ≤ q ∧ v.ownBlock = some q ∧ ∀ cur t fz, w.heap[q]? = some (.cells cur t fz) → t = 29 := by
  by_cases hn : 0 < L.length
  · obtain ⟨b, cap, cur, h1, h2, h3, h4⟩ := h.row hn
    refine ⟨[b], ⟨Ext.refl _ _, fun _ => ⟨b, cap, cur, rfl, h1, h3, h4⟩⟩, fun q hq => ?_⟩
    rw [List.mem_singleton] at hq
    subst hq
    refine ⟨h2, by rw [h1]; rfl, fun cur' t fz hc => ?_⟩
    rw [h3] at hc
    cases hc
    rfl
  · exact ⟨[], ⟨Ext.refl _ _, fun h => absurd h hn⟩, by simp⟩
theorem OverM.shape {M : List Nat} {v : Value} {n : Nat} {w0 w : World} (h : OverM M v n w0 w) {i : Nat} (hi : i < n) : ∃ b cap, M = [b] ∧ v = .slice (some ⟨b, 0, none⟩) n cap ∧ (∃ u, w.cell? ⟨b, i * 2, none⟩ = some u) ∧ (∃ u, w.cell? ⟨b, i * 2 + 1, none⟩ = some u) ∧ ∀ o, w.frozen? ⟨b, o, none⟩ = false := by
  obtain ⟨b, cap, cur, h1, h2, h3, h4⟩ := h.2 (by omega)
  refine ⟨b, cap, h1, h2, ⟨cur[i * 2]'(by omega), ?_⟩, ⟨cur[i * 2 + 1]'(by omega), ?_⟩, fun o => frozen_of_row _ _ _ _ _ h3⟩
  · rw [cell_of_row _ _ _ _ _ _ h3]; simp
  · rw [cell_of_row _ _ _ _ _ _ h3]; simp
theorem OverM.write {b n : Nat} {v : Value} {w0 w : World} (h : OverM [b] v n w0 w) (i : Nat) (u1 u2 : Value) : OverM [b] v n w0 ((w.setCell ⟨b, i * 2, none⟩ u1).setCell ⟨b, i * 2 + 1, none⟩ u2) := by
  obtain ⟨hx, h1⟩ := h
  refine ⟨(hx.setCell (p := ⟨b, i * 2, none⟩) (.inl (by simp)) u1).setCell (p := ⟨b, i * 2 + 1, none⟩) (.inl (by simp)) u2, fun hn => ?_⟩
  obtain ⟨b', cap, cur, h2, h3, h4, h5⟩ := h1 hn
  obtain rfl : b = b' := by simpa using h2
  exact ⟨b, cap, _, rfl, h3, heap_set (o := i * 2 + 1) u2 (heap_set (o := i * 2) u1 h4), by simpa using h5⟩

set_option maxRecDepth 10000 in
set_option maxHeartbeats 4000000 in
theorem open_tells {B x d m : Nat} {w : World} {k k' : Dk} {wv sv pv : Value} {s p t : Sv} {sm : Bool} (h : XBase B w x d m k wv s sv p pv sm)
    (hop : Calls Tryz.prog 17 #[.pointer (some ⟨d, 0, none⟩)] w fun e w' => Told17 w d m k' t e w') (ht : Told s p sm t)
    (hon : On k' t) (hfu : k.fuse = -1 → k'.fuse = -1) : Calls Tryz.prog 9 #[.pointer (some ⟨x, 0, none⟩)] w fun e w' => WOpen B w x k s p sm e w' := by
  have c0 := h.row.facts.c0
  have lx := h.row.lt
  have HOP := Lib.hid hop
  obtain ⟨asv, csv, rfl, _, _⟩ := h.rs.shape
  obtain ⟨apv, cpv, rfl, _, _⟩ := h.rp.shape
  have H := Lib.hid h
  have hmt := hon.good.may
  have hlt : t.log.length ≤ 4096 := (may_parts hmt).2.2.2.2.1
  have HT := Lib.hid ht
  have HMT := Lib.hid hmt
  have HFU := Lib.hid hfu
  clear hop ht hmt hfu
  go_enter Tryz.func9, Tryz.ntmps9
  go_upto_region 2 with (go_at_call 17; refine HOP.out.mono ?_; rintro e w2 ⟨g, lv, v, Bq, rfl, d2, x2, hg, hw2, hgB, hrl2, hov⟩; obtain ⟨av, cv, rfl, _, _⟩ := hov.rd.shape)
  have hxn : x ∉ [d, m] := by simp only [List.mem_cons, List.not_mem_nil, or_false, not_or]; exact H.out.row.ne_disk H.out.disk
  have row2 := H.out.row.ext x2 hxn
  obtain ⟨w3, hw3⟩ : ∃ w3, w3 = w2.alloc (.cells #[.int .i64 t.term, .int .i64 t.vote, .slice av t.log.length cv] 27) := ⟨_, rfl⟩
  have x2a : Ext [] w2 w3 := by rw [hw3]; exact (Ext.refl [] w2).alloc _
  have row3 := row2.ext x2a (by simp)
  have box3 : w3.heap[w2.heap.size]? = some (.cells #[.int .i64 t.term, .int .i64 t.vote, .slice av t.log.length cv] 27 (0, 0)) := by rw [hw3]; exact heap_alloc_new w2 _
  have d3 := d2.nil x2a
  have hs2 := x2.size
  have rs3 : RdE w.heap.size w3 (.slice asv s.log.length csv) s.log := RdE.ext (RdE.diskTurned H.out.rs x2 H.out.disk) x2a
  have rp3 : RdE w.heap.size w3 (.slice apv p.log.length cpv) p.log := RdE.ext (RdE.diskTurned H.out.rp x2 H.out.disk) x2a
  have X3 : Ext [d, m] w w3 := by rw [hw3]; exact x2.alloc _
  have hz3 : w3.heap.size = w2.heap.size + 1 := by rw [hw3]; simp
  have hw3r := hw2.ext x2a (by simp)
  have hrl3 := RdE.ext hrl2 x2a
  have hov3 := hov.ext x2a
  rw [← hw3]
  have hlw2 := hw2.lt
  clear hw3 hw2 hrl2 hov d2 row2
  have row4 := row3.setW (.pointer (some ⟨g, 0, none⟩))
  have X4 : Ext [d, m, x] w (w3.setCell ⟨x, 1, none⟩ (.pointer (some ⟨g, 0, none⟩))) := (X3.mono (by simp; omega)).setCell (p := ⟨x, 1, none⟩) (.inl (by simp)) _
  have d4 : DiskAt (w3.setCell ⟨x, 1, none⟩ (.pointer (some ⟨g, 0, none⟩))) d m k' := d3.setX row3
  have rs4 : RdE w.heap.size (w3.setCell ⟨x, 1, none⟩ (.pointer (some ⟨g, 0, none⟩))) (.slice asv s.log.length csv) s.log := rs3.setX row3
  have rp4 : RdE w.heap.size (w3.setCell ⟨x, 1, none⟩ (.pointer (some ⟨g, 0, none⟩))) (.slice apv p.log.length cpv) p.log := rp3.setX row3
  have hw4 : WalRow (w3.setCell ⟨x, 1, none⟩ (.pointer (some ⟨g, 0, none⟩))) g d t.term t.vote lv (k'.get .wal).b.length false := hw3r.setX row3
  have hrl4 : RdE Bq (w3.setCell ⟨x, 1, none⟩ (.pointer (some ⟨g, 0, none⟩))) lv t.log := hrl3.setX row3
  have hov4 : OwnE (w3.setCell ⟨x, 1, none⟩ (.pointer (some ⟨g, 0, none⟩))) Bq (.slice av t.log.length cv) t.log := hov3.setX row3
  have hxz : x ≠ w2.heap.size := by omega
  have box4 := (Below.heap_setCell w3 ⟨x, 1, none⟩ (.pointer (some ⟨g, 0, none⟩)) w2.heap.size hxz.symm).trans box3
  have hz4 : (w3.setCell ⟨x, 1, none⟩ (.pointer (some ⟨g, 0, none⟩))).heap.size = w2.heap.size + 1 := by rw [World.size_setCell]; exact hz3
  have p1 := row3.facts.c1
  have f1 := row3.facts.fz 1
  go_upto_region 3 with fail
  generalize w3.setCell ⟨x, 1, none⟩ (.pointer (some ⟨g, 0, none⟩)) = w4 at row4 X4 d4 rs4 rp4 hw4 hrl4 hov4 box4 hz4 ⊢
  clear p1 f1 row3 d3 rs3 rp3 hw3r hrl3 hov3 box3 X3 x2a hz3
  go_upto_region 7 with fail
  have hfac : ∀ W, Ext [] w4 W → W.cell? ⟨w2.heap.size, 0, none⟩ = some (.int .i64 t.term) ∧ W.cell? ⟨w2.heap.size, 1, none⟩ = some (.int .i64 t.vote) ∧ W.cell? ⟨w2.heap.size, 2, none⟩ = some (.slice av t.log.length cv) ∧
      W.cell? ⟨x, 2, none⟩ = some (.int .i64 s.term) ∧ W.cell? ⟨x, 3, none⟩ = some (.int .i64 s.vote) ∧ W.cell? ⟨x, 4, none⟩ = some (.slice asv s.log.length csv) ∧
      W.cell? ⟨x, 5, none⟩ = some (.int .i64 p.term) ∧ W.cell? ⟨x, 6, none⟩ = some (.int .i64 p.vote) ∧ W.cell? ⟨x, 7, none⟩ = some (.slice apv p.log.length cpv) ∧ W.cell? ⟨x, 8, none⟩ = some (.bool sm) := fun W hx => by
    have fx := (row4.ext hx (by simp)).facts
    have fb := rowFacts (hx.heap box4)
    exact ⟨fb.1, fb.2.1, fb.2.2.1, fx.c2, fx.c3, fx.c4, fx.c5, fx.c6, fx.c7, fx.c8⟩
  have HFAC := Lib.hid hfac
  have XD : Ext [] w4 w4.drew := (Ext.refl [] w4).drew
  clear hfac
  go_cut [64] (fun s64 wc => s64 = .bool false ∧ Ext [] w4 wc)
  case first =>
    by_cases hts : t = s
    · subst hts
      have hsa : ∀ W, Ext [] w4 W → Calls Tryz.prog 15 #[.agg #[.int .i64 t.term, .int .i64 t.vote, .slice av t.log.length cv], .agg #[.int .i64 t.term, .int .i64 t.vote, .slice asv t.log.length csv]] W fun e w' => e = .returned (.bool true) ∧ Below W.heap.size W w' := fun W hx => by
        have := Same_calls (.slice av t.log.length cv) (.slice asv t.log.length csv) t t W (RdE.mono (RdE.ext hov4.rd hx) hx.size) (RdE.mono (RdE.ext rs4 hx) (Nat.le_trans X4.size hx.size))
        rw [same_of rfl rfl rfl] at this
        exact this
      have HSA := Lib.hid hsa
      clear hsa
      obtain ⟨k0, k1, k2, k3, k4, k5, _⟩ := HFAC.out _ (Ext.refl [] w4)
      have j0 := cell_regrown k0
      have j1 := cell_regrown k1
      have j2 := cell_regrown k2
      have j3 := cell_regrown k3
      have j4 := cell_regrown k4
      have j5 := cell_regrown k5
      clear k0 k1 k2 k3 k4 k5
      refine wp_region_quiet_below (by kernel_rfl) (by kernel_rfl) ?_
      repeat (go_big_quiet_step (exact Calls.regrown_of (HSA.out _ (Ext.of_below (below_regrown w4 _ _)))))
      refine wpQuiet_nil ?_
      intro _ hw'
      obtain ⟨⟨dq, osq⟩, hw''⟩ := hw'
      subst hw''
      go_wp2_with fail
      go_meet
      exact ⟨rfl, Ext.of_below (below_regrown w4 dq osq)⟩
    · obtain ⟨hsm, htp⟩ := HT.out.resolve_left hts
      subst hsm
      subst htp
      have hsf : sameB t s = false := by
        cases hb : sameB t s with
        | false => rfl
        | true => exact absurd (same_iff.1 hb) hts
      have hsa : ∀ W, Ext [] w4 W → Calls Tryz.prog 15 #[.agg #[.int .i64 t.term, .int .i64 t.vote, .slice av t.log.length cv], .agg #[.int .i64 s.term, .int .i64 s.vote, .slice asv s.log.length csv]] W fun e w' => e = .returned (.bool false) ∧ Below W.heap.size W w' := fun W hx => by
        have := Same_calls (.slice av t.log.length cv) (.slice asv s.log.length csv) t s W (RdE.mono (RdE.ext hov4.rd hx) hx.size) (RdE.mono (RdE.ext rs4 hx) (Nat.le_trans X4.size hx.size))
        rw [hsf] at this
        exact this
      have hsb : ∀ W, Ext [] w4 W → Calls Tryz.prog 15 #[.agg #[.int .i64 t.term, .int .i64 t.vote, .slice av t.log.length cv], .agg #[.int .i64 t.term, .int .i64 t.vote, .slice apv t.log.length cpv]] W fun e w' => e = .returned (.bool true) ∧ Below W.heap.size W w' := fun W hx => by
        have := Same_calls (.slice av t.log.length cv) (.slice apv t.log.length cpv) t t W (RdE.mono (RdE.ext hov4.rd hx) hx.size) (RdE.mono (RdE.ext rp4 hx) (Nat.le_trans X4.size hx.size))
        rw [same_of rfl rfl rfl] at this
        exact this
      have HSA := Lib.hid hsa
      have HSB := Lib.hid hsb
      have tok := Lib.hid trivial
      clear hsa hsb hsf hts
      go_region_held3 (fun w' => w'.cell? ⟨w2.heap.size, 0, none⟩ = some (.int .i64 t.term) ∧ w'.cell? ⟨w2.heap.size, 1, none⟩ = some (.int .i64 t.vote) ∧ w'.cell? ⟨w2.heap.size, 2, none⟩ = some (.slice av t.log.length cv) ∧
          w'.cell? ⟨x, 2, none⟩ = some (.int .i64 s.term) ∧ w'.cell? ⟨x, 3, none⟩ = some (.int .i64 s.vote) ∧ w'.cell? ⟨x, 4, none⟩ = some (.slice asv s.log.length csv) ∧
          w'.cell? ⟨x, 5, none⟩ = some (.int .i64 t.term) ∧ w'.cell? ⟨x, 6, none⟩ = some (.int .i64 t.vote) ∧ w'.cell? ⟨x, 7, none⟩ = some (.slice apv t.log.length cpv) ∧ w'.cell? ⟨x, 8, none⟩ = some (.bool true))
        (first | exact HFAC.out _ (Ext.refl [] w4) | exact HFAC.out _ XD | exact HFAC.out _ x9 | exact HFAC.out _ x8)
        (first
          | (go_at_call 15; have _t := tok; refine (HSA.out _ XD).mono ?_; rintro e w8 ⟨rfl, hb8⟩; have x8 : Ext [] w4 w8 := XD.trans (Ext.of_below hb8); clear _t tok)
          | (go_at_call 15; refine (HSB.out _ x8).mono ?_; rintro e w9 ⟨rfl, hb9⟩; have x9 : Ext [] w4 w9 := x8.trans (Ext.of_below hb9)))
      all_goals
        go_wp2_with fail
        go_meet
        exact ⟨rfl, x9⟩
  case rest =>
    obtain ⟨w5, rfl⟩ : ∃ w5 : World, w5 = wc := ⟨_, rfl⟩
    obtain ⟨rfl, x5⟩ := hcut
    have row5 := row4.ext x5 (by simp)
    have box5 := x5.heap box4
    obtain ⟨y0, y1, y2, _, _, _⟩ := rowFacts box5
    have hcp := Copy_calls t.term t.vote (.slice av t.log.length cv) t.log (by omega) w5 (RdE.mono (RdE.ext hov4.rd x5) x5.size)
    have HCP := Lib.hid hcp
    have hs45 := x5.size
    clear hcp
    go_wp2_with fail
    refine HCP.out.mono ?_
    rintro e w6 ⟨v6, rfl, o6, b6⟩
    obtain ⟨a6, c6, rfl, _, _⟩ := o6.rd.shape
    have x56 : Ext [] w5 w6 := Ext.of_below b6
    have row6 := row5.ext x56 (by simp)
    have g2 := row6.facts.c2
    have g3 := row6.facts.c3
    have g4 := row6.facts.c4
    have e2 := row6.facts.fz 2
    have e3 := row6.facts.fz 3
    have e4 := row6.facts.fz 4
    have box6 := x56.heap box5
    have x46 := x5.trans x56
    have row7 := row6.setSure t (.slice a6 t.log.length c6)
    have XX7 : Ext [x] w6 (((w6.setCell ⟨x, 2, none⟩ (.int .i64 t.term)).setCell ⟨x, 3, none⟩ (.int .i64 t.vote)).setCell ⟨x, 4, none⟩ (.slice a6 t.log.length c6)) :=
      (((Ext.refl [x] w6).setCell (p := ⟨x, 2, none⟩) (.inl (by simp)) _).setCell (p := ⟨x, 3, none⟩) (.inl (by simp)) _).setCell (p := ⟨x, 4, none⟩) (.inl (by simp)) _
    go_upto_region 10 with fail
    generalize ((w6.setCell ⟨x, 2, none⟩ (.int .i64 t.term)).setCell ⟨x, 3, none⟩ (.int .i64 t.vote)).setCell ⟨x, 4, none⟩ (.slice a6 t.log.length c6) = w7 at row7 XX7 ⊢
    clear g2 g3 g4 e2 e3 e4
    have g8 := row7.facts.c8
    have e8 := row7.facts.fz 8
    have row8 := row7.setSome false
    have XX8 : Ext [x] w6 (w7.setCell ⟨x, 8, none⟩ (.bool false)) := XX7.setCell (p := ⟨x, 8, none⟩) (.inl (by simp)) _
    go_upto_block 0 with fail
    generalize w7.setCell ⟨x, 8, none⟩ (.bool false) = w8 at row8 XX8 ⊢
    have nx : ∀ q, q ∈ [x] → ∀ cur t fz, t ≠ 35 → w6.heap[q]? ≠ some (.cells cur t fz) := fun q hq cur t fz ht => by
      rw [List.mem_singleton] at hq
      subst hq
      exact row6.notCells ht cur fz
    have d8 : DiskAt w8 d m k' := (d4.nil x46).ext XX8 (fun q hq => by
      rw [List.mem_singleton] at hq
      subst hq
      exact ⟨(row6.ne_disk (d4.nil x46)).1, (row6.ne_disk (d4.nil x46)).2, row6.notCells (t := 5) (by decide)⟩)
    have rp8 : RdE w.heap.size w8 (.slice apv p.log.length cpv) p.log := Rd.extM (RdE.ext rp4 x46) XX8 (fun q hq cur fz => nx q hq cur 29 fz (by decide)) (fun _ t ht q hq cur fz => nx q hq cur t fz ht.ne)
    have hxg : x ≠ g := row4.ne_wal hw4
    have hw8 : WalRow w8 g d t.term t.vote lv (k'.get .wal).b.length false := (hw4.ext x46 (by simp)).ext XX8 (by simp; omega)
    have hrl8 : RdE Bq w8 lv t.log := Rd.extM (RdE.ext hrl4 x46) XX8 (fun q hq cur fz => nx q hq cur 29 fz (by decide)) (fun _ t ht q hq cur fz => nx q hq cur t fz ht.ne)
    have hov8 : OwnE w8 Bq (.slice av t.log.length cv) t.log := OwnE.extM (hov4.ext x46) XX8 (fun q hq cur fz => nx q hq cur 29 fz (by decide))
    have o8 : OwnE w8 w5.heap.size (.slice a6 t.log.length c6) t.log := OwnE.extM o6 XX8 (fun q hq cur fz => nx q hq cur 29 fz (by decide))
    have hzx : w2.heap.size ≠ x := by omega
    have box8 : w8.heap[w2.heap.size]? = some (.cells #[.int .i64 t.term, .int .i64 t.vote, .slice av t.log.length cv] 27 (0, 0)) := (XX8.block _ (Array.getElem?_eq_some_iff.1 box6).1 (by simpa using hzx)).trans box6
    have hs56 := x56.size
    have hs68 := XX8.size
    have X8 : Ext [d, m, x] w w8 := (X4.cut (M1 := []) x46 (by simp)).cut XX8 (by simp)
    obtain ⟨M, hov, hM⟩ := overM_start hov8
    have hM4 : ∀ q, q ∈ M → w.heap.size ≤ q ∧ Bq ≤ q ∧ q < w5.heap.size ∧ ∀ cur t fz, w8.heap[q]? = some (.cells cur t fz) → t = 29 := fun q hq => by
      obtain ⟨h1, h2, h3⟩ := hM q hq
      have := hov4.lt q h2
      exact ⟨by omega, h1, by omega, h3⟩
    have fin : ∀ wr, Ext M w8 wr → XWal B wr x d m g k' t (.slice a6 t.log.length c6) p (.slice apv p.log.length cpv) lv false ∧ Below B w wr := fun wr hx => by
      have hxM : ∀ (q t : Nat) (cur : Array Value), t ≠ 29 → w8.heap[q]? = some (.cells cur t (0, 0)) → q ∉ M := fun q t cur ht hc hq => ht ((hM4 q hq).2.2.2 cur t _ hc)
      obtain ⟨gm, hrowd, hmapd, _⟩ := id d8
      have hdM : d ∉ M := hxM d 48 _ (by decide) hrowd
      have hmM : m ∉ M := fun hq => by
        have := (hM4 m hq).1
        have := H.out.disk.ltm
        omega
      have hszr := hx.size
      refine ⟨⟨⟨row8.ext hx (hxM x 35 _ (by decide) row8), d8.ext hx (fun q hq => ⟨fun e => hdM (e ▸ hq), fun e => hmM (e ▸ hq), fun cur fz hc => absurd ((hM4 q hq).2.2.2 cur 5 fz hc) (by decide)⟩), hon.base, H.out.bx, H.out.bd, H.out.bm, (o8.apart hx (fun q hq => (hM4 q hq).2.2.1)).rd, RdE.mono (rp8.apart hx (fun q hq => (hM4 q hq).1)) (Nat.le_trans X8.size hszr), HMT.out⟩,
        hon, by have := H.out.bx; have := H.out.row.lt; omega, hw8.ext hx (hxM g 41 _ (by decide) hw8), Rd.here (hrl8.apart hx (fun q hq => (hM4 q hq).2.1))⟩, ?_⟩
      · exact (X8.below (by have := H.out.bx; have := H.out.row.lt; omega) (by simp; exact ⟨H.out.bd, H.out.bm, H.out.bx⟩)).trans (hx.below (by have := H.out.bx; have := H.out.row.lt; have := X8.size; omega) (fun q hq => by have := (hM4 q hq).1; have := H.out.bx; have := H.out.row.lt; omega))
    have hzM : w2.heap.size ∉ M := fun hq => absurd ((hM4 _ hq).2.2.2 _ 27 _ box8) (by decide)
    have HZM := Lib.hid hzM
    have FIN := Lib.hid fin
    have HOV := Lib.hid hov
    clear fin hov hM hM4 hzM hov8 o8 rp8 hrl8 hw8 d8 X8 nx XX8 XX7 row8 row7 row6 row5 row4 hov4 hw4 hrl4 rs4 rp4 d4 X4 box4 box5 box6 HCP o6 b6 x56 x46 y0 y1 y2
    go_wp2_with fail
    go_loopw [6] (fun s6 wr => ∃ i : Nat, i ≤ t.log.length ∧ s6 = .int .i64 i ∧ Hid (OverM M (.slice av t.log.length cv) t.log.length w8 wr) ∧ Hid (wr.heap[w2.heap.size]? = some (.cells #[.int .i64 t.term, .int .i64 t.vote, .slice av t.log.length cv] 27 (0, 0)))) (fun s6 _ => (t.log.length - intOf s6).toNat)
    case atStart => exact ⟨0, by omega, rfl, HOV, Lib.hid box8⟩
    case round =>
      obtain ⟨i, hi, rfl, hov, hbx⟩ := hrel
      obtain ⟨wo, rfl⟩ : ∃ wo : World, wo = wr := ⟨_, rfl⟩
      obtain ⟨y0, y1, y2, y3, y4, y5⟩ := rowFacts hbx.out
      by_cases hi2 : i < t.log.length
      · obtain ⟨b, cap, rfl, hv, ⟨u1, c1⟩, ⟨u2, c2⟩, hfz⟩ := hov.out.shape hi2
        cases hv
        have z1 := hfz (i * 2)
        have z2 := hfz (i * 2 + 1)
        have hi0 : (0 : Int) ≤ (i : Int) := by omega
        have hi1 : (i : Int) < (t.log.length : Int) := by omega
        have hbz : w2.heap.size ≠ b := by
          have := HZM.out
          simpa using this
        clear hfz
        go_wp2_with fail
        go_roundw
        case rel => exact ⟨i + 1, by omega, by go_num, Lib.hid (hov.out.write i _ _), Lib.hid (by rw [Below.heap_setCell _ ⟨b, i * 2 + 1, none⟩ _ _ hbz, Below.heap_setCell _ ⟨b, i * 2, none⟩ _ _ hbz]; exact hbx.out)⟩
        case measure => simp [intOf]; omega
      · obtain rfl : i = t.log.length := by omega
        obtain ⟨hX, hB⟩ := FIN.out wo hov.out.1
        have htd := tidy_calls hX
        have HTD := Lib.hid htd
        have HX := Lib.hid hX
        clear htd hX
        go_wp2_with (go_at_call 14; refine HTD.out.mono ?_; rintro e w9 ⟨rfl, x9⟩)
        go_ret
        exact ⟨rfl, hB.trans (x9.below (Nat.le_trans (by have := H.out.bx; have := H.out.row.lt; omega) hB.size) (by simp)), .inl ⟨k', t, ⟨d, m, g, _, p, _, lv, HX.out.nil x9⟩, HT.out, HFU.out⟩⟩
end Go.Proofs.YtipbfmalacnmkaaGreat
