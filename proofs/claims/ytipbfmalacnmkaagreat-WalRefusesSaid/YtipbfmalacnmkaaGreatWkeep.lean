/- The world's open, joined; the world's keep. -/
import Derived.Test.YtipbfmalacnmkaaGreatWtell
namespace Go.Proofs.YtipbfmalacnmkaaGreat
open Go.RowKit Go.Shelf

theorem wopen_calls {B x : Nat} {w : World} {k : Dk} {s p : Sv} {sm : Bool} (h : XReady B w x k s p sm) : Calls Tryz.prog 9 #[.pointer (some ⟨x, 0, none⟩)] w fun e w' => WOpen B w x k s p sm e w' := by
  obtain ⟨d, m, wv, sv, pv, xb, _, hoff, hl, hok⟩ := h
  obtain ⟨recs, q, t, ht, hq, hch, hmt, hb, hcase⟩ := opened_cases xb.base hoff hl hok
  have hop := Open_calls xb.disk xb.base.fuse hoff recs q t hq hch hmt hb (by have := xb.base.ws; omega)
  rcases hcase with ⟨e, on, hsz⟩ | ⟨e, off, bs, hh⟩
  · refine open_tells xb (hop.mono ?_) ht on (fun hf => (Calm.opened ⟨hoff, hf⟩ q t).2)
    rintro e' w' ⟨h1, h2, ⟨h3, _⟩ | ⟨_, g, lv, v, h4, h5, h6, Bq, h7, h8, h9⟩⟩
    · exact absurd e h3
    · rw [hsz] at h6
      exact ⟨g, lv, v, Bq, h4, h1, h2, h5, h6, h7, h8, h9⟩
  · refine open_fails xb (k' := (k.opened q t).2) (hop.mono ?_) off bs hh (fun hf => ?_)
    · rintro e' w' ⟨h1, h2, ⟨_, h4⟩ | ⟨h3, _⟩⟩
      · rw [e] at h4
        exact ⟨h4, h1, h2⟩
      · rw [e] at h3
        cases h3
    · have := (Calm.opened ⟨hoff, hf⟩ q t).1
      rw [off] at this
      cases this

def WKeep (B : Nat) (w : World) (x : Nat) (k : Dk) (was s : Sv) (e : Ending) (w' : World) : Prop :=
  e = .returned (.bool true) ∧ Below B w w' ∧ ((∃ k', XOn B w' x k' s ∧ (k.fuse = -1 → k'.fuse = -1)) ∨ (XOff B w' x was s true ∧ k.fuse ≠ -1))
set_option maxRecDepth 10000 in
set_option maxHeartbeats 600000 in
theorem wkeep_off {B x : Nat} {w : World} {s p : Sv} {sm : Bool} (h : XOff B w x s p sm) (T V : Int) (u : Value) (hu : ∃ a n c, u = .slice a n c) :
    Calls Tryz.prog 8 #[.pointer (some ⟨x, 0, none⟩), .agg #[.int .i64 T, .int .i64 V, u]] w fun e w' => e = .returned (.bool true) ∧ Ext [] w w' := by
  obtain ⟨a, n, c, rfl⟩ := hu
  obtain ⟨d, m, k, sv, pv, xb, _⟩ := h
  have c1 := xb.row.facts.c1
  have lx := xb.row.lt
  clear xb
  go_enter Tryz.func8, Tryz.ntmps8
  go_wp2
  go_ret
  exact ⟨rfl, (Ext.refl [] w).alloc _⟩

set_option maxRecDepth 10000 in
set_option maxHeartbeats 4000000 in
theorem wkeep_on {B x : Nat} {w : World} {k : Dk} {was s : Sv} (h : XOn B w x k was) (u : Value) (hu : RdE w.heap.size w u s.log) (hs : mayB s = true) :
    Calls Tryz.prog 8 #[.pointer (some ⟨x, 0, none⟩), .agg #[.int .i64 s.term, .int .i64 s.vote, u]] w fun e w' => WKeep B w x k was s e w' := by
  obtain ⟨au, cu, rfl, _, _⟩ := hu.shape
  obtain ⟨d, m, g, sv, p, pv, lv, h⟩ := h
  obtain ⟨asv, csv, rfl, _, _⟩ := h.xb.rs.shape
  have hls : s.log.length ≤ 4096 := (may_parts hs).2.2.2.2.1
  have c1 := h.xb.row.facts.c1
  have lx := h.xb.row.lt
  have H := Lib.hid h
  have HS := Lib.hid hs
  -- the first box
  obtain ⟨W1, hW1⟩ : ∃ W1, W1 = w.alloc (.cells #[.int .i64 s.term, .int .i64 s.vote, .slice au s.log.length cu] 27) := ⟨_, rfl⟩
  have X1 : Ext [] w W1 := by rw [hW1]; exact (Ext.refl [] w).alloc _
  have r1 : W1.heap[w.heap.size]? = some (.cells #[.int .i64 s.term, .int .i64 s.vote, .slice au s.log.length cu] 27 (0, 0)) := by rw [hW1]; exact heap_alloc_new w _
  have z1 : W1.heap.size = w.heap.size + 1 := by rw [hW1]; simp
  have hcp := Copy_calls s.term s.vote (.slice au s.log.length cu) s.log (by omega) W1 (RdE.mono (RdE.ext hu X1) X1.size)
  have HCP := Lib.hid hcp
  clear hcp hs
  go_enter Tryz.func8, Tryz.ntmps8
  go_wp2_with fail
  rw [← hW1]
  clear hW1
  refine HCP.out.mono ?_
  rintro e w2 ⟨v2, rfl, o2, b2⟩
  obtain ⟨a2, c2, rfl, _, _⟩ := o2.rd.shape
  have x2 : Ext [] W1 w2 := Ext.of_below b2
  have hz2 := x2.size
  obtain ⟨W3, hW3⟩ : ∃ W3, W3 = w2.alloc (.cells #[.int .i64 s.term, .int .i64 s.vote, .slice a2 s.log.length c2] 27) := ⟨_, rfl⟩
  have x23 : Ext [] w2 W3 := by rw [hW3]; exact (Ext.refl [] w2).alloc _
  have X3 : Ext [] w W3 := X1.trans (x2.trans x23)
  have r3 := (x2.trans x23).heap r1
  have s3 : W3.heap[w2.heap.size]? = some (.cells #[.int .i64 s.term, .int .i64 s.vote, .slice a2 s.log.length c2] 27 (0, 0)) := by rw [hW3]; exact heap_alloc_new w2 _
  have o3 := o2.ext x23
  have z3 : W3.heap.size = w2.heap.size + 1 := by rw [hW3]; simp
  go_upto_region 4 with fail
  rw [← hW3]
  clear hW3
  have h3 := H.out.nil X3
  have hkp := Keep_calls (w := W3.drew) (h3.xb.disk.nil (Ext.refl [] W3).drew) H.out.on.base.fuse H.out.on.on (h3.wal.ext (Ext.refl [] W3).drew (by simp)) (RdE.ext h3.rl (Ext.refl [] W3).drew) s (.slice a2 s.log.length c2) (RdE.ext o3.rd (Ext.refl [] W3).drew) HS.out (by have := H.out.on.good.len; omega) (by have := H.out.on.good.len; omega)
  have HKP := Lib.hid hkp
  have hxn : x ∉ [d, m, g] := by
    simp only [List.mem_cons, List.not_mem_nil, or_false, not_or]
    exact ⟨(h3.xb.row.ne_disk h3.xb.disk).1, (h3.xb.row.ne_disk h3.xb.disk).2, h3.xb.row.ne_wal h3.wal⟩
  have hlg := H.out.wal.lt
  have hld := H.out.xb.disk.lt
  have hlm := H.out.xb.disk.ltm
  have hbn : w2.heap.size ∉ [d, m, g] := by simp; omega
  have hzn : w.heap.size ∉ [d, m, g] := by simp; omega
  have hfac : ∀ W, Ext [d, m, g] W3 W → W.cell? ⟨x, 1, none⟩ = some (.pointer (some ⟨g, 0, none⟩)) ∧ W.cell? ⟨w2.heap.size, 0, none⟩ = some (.int .i64 s.term) ∧ W.cell? ⟨w2.heap.size, 1, none⟩ = some (.int .i64 s.vote) ∧ W.cell? ⟨w2.heap.size, 2, none⟩ = some (.slice a2 s.log.length c2) := fun W hx => by
    have fx := (h3.xb.row.ext hx hxn).facts
    have fb := rowFacts ((hx.block _ (Array.getElem?_eq_some_iff.1 s3).1 hbn).trans s3)
    exact ⟨fx.c1, fb.1, fb.2.1, fb.2.2.1⟩
  have HFAC := Lib.hid hfac
  have H3 := Lib.hid h3
  have XD : Ext [d, m, g] W3 W3.drew := (Ext.refl [d, m, g] W3).drew
  clear hkp hfac h3
  go_cut [6] (fun s6 wc => ∃ r : Int, s6 = .int .i64 r ∧ Hid (KeepPost W3.drew d m g k (k.get .wal).b.length was s lv (.returned (.int .i64 r)) wc))
  case first =>
    go_region_held3 (fun w' => w'.cell? ⟨x, 1, none⟩ = some (.pointer (some ⟨g, 0, none⟩)) ∧ w'.cell? ⟨w2.heap.size, 0, none⟩ = some (.int .i64 s.term) ∧ w'.cell? ⟨w2.heap.size, 1, none⟩ = some (.int .i64 s.vote) ∧ w'.cell? ⟨w2.heap.size, 2, none⟩ = some (.slice a2 s.log.length c2))
      (first | exact HFAC.out _ (Ext.refl _ W3) | exact HFAC.out _ XD | exact HFAC.out _ x4)
      (first | (go_at_call 12; refine HKP.out.mono ?_; rintro e w4 hpost; have HPO := Lib.hid hpost; obtain ⟨rfl, _, x4', _⟩ := hpost; have x4 : Ext [d, m, g] W3 w4 := XD.trans x4'))
    all_goals
      go_wp2_with fail
      go_meet
      exact ⟨_, rfl, HPO⟩
  case rest =>
    obtain ⟨w4, rfl⟩ : ∃ w4 : World, w4 = wc := ⟨_, rfl⟩
    obtain ⟨r, rfl, hpo⟩ := hcut
    obtain ⟨hr, d4, x4', hor⟩ := hpo.out
    have x4 : Ext [d, m, g] W3 w4 := XD.trans x4'
    have hr' : r = (k.kept (k.get .wal).b.length was s).1 := by injection hr with h1; injection h1
    have HR := Lib.hid hr'
    have HOR := Lib.hid hor
    have row4 := H3.out.xb.row.ext x4 hxn
    have r4 := (x4.block _ (Array.getElem?_eq_some_iff.1 r3).1 hzn).trans r3
    have s4 := (x4.block _ (Array.getElem?_eq_some_iff.1 s3).1 hbn).trans s3
    have hn29 : ∀ q, q ∈ [d, m, g] → ∀ cur fz, W3.heap[q]? ≠ some (.cells cur 29 fz) := fun q hq cur fz hc => by
      simp only [List.mem_cons, List.not_mem_nil, or_false] at hq
      rcases hq with rfl | rfl | rfl
      · exact H3.out.xb.disk.notCells (t := 29) (by decide) q (by simp) cur fz hc
      · exact H3.out.xb.disk.notCells (t := 29) (by decide) q (by simp) cur fz hc
      · exact H3.out.wal.notCells (t := 29) (by decide) cur fz hc
    have hnF : ∀ t, Far t → ∀ q, q ∈ [d, m, g] → ∀ cur fz, W3.heap[q]? ≠ some (.cells cur t fz) := fun t ht q hq cur fz hc => by
      simp only [List.mem_cons, List.not_mem_nil, or_false] at hq
      rcases hq with rfl | rfl | rfl
      · exact H3.out.xb.disk.notCells (t := t) ht.ne q (by simp) cur fz hc
      · exact H3.out.xb.disk.notCells (t := t) ht.ne q (by simp) cur fz hc
      · exact H3.out.wal.notCells (t := t) ht.ne cur fz hc
    have o4 : OwnE w4 W1.heap.size (.slice a2 s.log.length c2) s.log := OwnE.extM o3 x4 hn29
    have ru4 : RdE w.heap.size w4 (.slice au s.log.length cu) s.log := Rd.extM (RdE.ext hu X3) x4 hn29 (fun _ => hnF)
    have rs4 : RdE w.heap.size w4 (.slice asv was.log.length csv) was.log := Rd.extM (RdE.ext H.out.xb.rs X3) x4 hn29 (fun _ => hnF)
    have rp4 : RdE w.heap.size w4 pv p.log := Rd.extM (RdE.ext H.out.xb.rp X3) x4 hn29 (fun _ => hnF)
    have rl4 : RdE w.heap.size w4 lv was.log := Rd.extM (RdE.ext H.out.rl X3) x4 hn29 (fun _ => hnF)
    have hs34 := x4.size
    obtain ⟨M, hov, hM⟩ := overM_start o4
    have hM4 : ∀ q, q ∈ M → W1.heap.size ≤ q ∧ q < w2.heap.size ∧ ∀ cur t fz, w4.heap[q]? = some (.cells cur t fz) → t = 29 := fun q hq => by
      obtain ⟨h1, h2, h3⟩ := hM q hq
      have := o2.lt q h2
      exact ⟨h1, by omega, h3⟩
    have hzM : w2.heap.size ∉ M := fun hq => by have := (hM4 _ hq).2.1; omega
    have hxM : x ∉ M := fun hq => by have := (hM4 _ hq).1; omega
    have HZM := Lib.hid hzM
    have HM := Lib.hid hM4
    have HOV := Lib.hid hov
    clear hr hr' hor hpo hn29 hnF hov hM hM4 hzM HCP o2 b2 x2 x23 r1 r3 s3 o3 HKP XD x4' HFAC
    go_wp2_with fail
    go_loopw [7] (fun s7 wr => ∃ i : Nat, i ≤ s.log.length ∧ s7 = .int .i64 i ∧ Hid (OverM M (.slice a2 s.log.length c2) s.log.length w4 wr) ∧ Hid (wr.heap[w2.heap.size]? = some (.cells #[.int .i64 s.term, .int .i64 s.vote, .slice a2 s.log.length c2] 27 (0, 0)))) (fun s7 _ => (s.log.length - intOf s7).toNat)
    case atStart => exact ⟨0, by omega, rfl, HOV, Lib.hid s4⟩
    case round =>
      obtain ⟨i, hi, rfl, hov, hbx⟩ := hrel
      obtain ⟨wo, rfl⟩ : ∃ wo : World, wo = wr := ⟨_, rfl⟩
      obtain ⟨y0, y1, y2, y3, y4, y5⟩ := rowFacts hbx.out
      by_cases hi2 : i < s.log.length
      · obtain ⟨b, cap, rfl, hv, ⟨u1, c1⟩, ⟨u2, c2⟩, hfz⟩ := hov.out.shape hi2
        cases hv
        have z1 := hfz (i * 2)
        have z2 := hfz (i * 2 + 1)
        have hi0 : (0 : Int) ≤ (i : Int) := by omega
        have hi1 : (i : Int) < (s.log.length : Int) := by omega
        have hbz : w2.heap.size ≠ b := by
          have := HZM.out
          simpa using this
        clear hfz
        go_wp2_with fail
        go_roundw
        case rel => exact ⟨i + 1, by omega, by go_num, Lib.hid (hov.out.write i _ _), Lib.hid (by rw [Below.heap_setCell _ ⟨b, i * 2 + 1, none⟩ _ _ hbz, Below.heap_setCell _ ⟨b, i * 2, none⟩ _ _ hbz]; exact hbx.out)⟩
        case measure => simp [intOf]; omega
      · obtain rfl : i = s.log.length := by omega
        have hX := hov.out.1
        have row5 := row4.ext hX hxM
        have r5 : wo.heap[w.heap.size]? = some (.cells #[.int .i64 s.term, .int .i64 s.vote, .slice au s.log.length cu] 27 (0, 0)) := (hX.block _ (Array.getElem?_eq_some_iff.1 r4).1 (fun hq => by have := (HM.out _ hq).1; omega)).trans r4
        have ru5 : RdE w.heap.size wo (.slice au s.log.length cu) s.log := ru4.apart hX (fun q hq => by have := (HM.out q hq).1; omega)
        have rs5 : RdE w.heap.size wo (.slice asv was.log.length csv) was.log := rs4.apart hX (fun q hq => by have := (HM.out q hq).1; omega)
        have rp5 : RdE w.heap.size wo pv p.log := rp4.apart hX (fun q hq => by have := (HM.out q hq).1; omega)
        have d5 : DiskAt wo d m (k.kept (k.get .wal).b.length was s).2 := d4.ext hX (fun q hq => ⟨fun e => by have := (HM.out q hq).1; omega, fun e => by have := (HM.out q hq).1; omega, fun cur fz hc => absurd ((HM.out q hq).2.2 cur 5 fz hc) (by decide)⟩)
        have hgM : g ∉ M := fun hq => by have := (HM.out _ hq).1; omega
        have hs45 := hX.size
        have hBx := H.out.xb.bx
        have HBW : Below B w wo := ((((Ext.refl [d, m, g] w).cut (M1 := []) X3 (by simp)).trans x4).below (by omega) (by simp; exact ⟨H.out.xb.bd, H.out.xb.bm, H.out.bg⟩)).trans (hX.below (by omega) (fun q hq => by have := (HM.out q hq).1; omega))
        have HBWH := Lib.hid HBW
        have R5 := Lib.hid row5
        have D5 := Lib.hid d5
        clear HBW d5
        rcases kept_cases H.out.on HS.out with ⟨e0, hon, hsz⟩ | ⟨e0, hof, hba, hho⟩
        · have hr0 : r = 0 := HR.out.trans e0
          subst hr0
          obtain ⟨lv', hwk, hol⟩ : ∃ lv', WalRow w4 g d s.term s.vote lv' ((k.kept (k.get .wal).b.length was s).2.get .wal).b.length false ∧ OwnE w4 W3.heap.size lv' s.log := by
            rcases HOR.out with ⟨hne, _⟩ | ⟨_, lv', h1, h2⟩
            · exact absurd e0 hne
            · rw [hsz] at h1
              exact ⟨lv', h1, h2⟩
          have HON := Lib.hid hon
          have g2 := row5.facts.c2
          have g3 := row5.facts.c3
          have g4 := row5.facts.c4
          have g8 := row5.facts.c8
          have f2 := row5.facts.fz 2
          have f3 := row5.facts.fz 3
          have f4 := row5.facts.fz 4
          have f8 := row5.facts.fz 8
          obtain ⟨q0, q1, q2, _, _, _⟩ := rowFacts r5
          have row6 := (row5.setSure s (.slice au s.log.length cu)).setSome false
          have XX6 : Ext [x] wo ((((wo.setCell ⟨x, 2, none⟩ (.int .i64 s.term)).setCell ⟨x, 3, none⟩ (.int .i64 s.vote)).setCell ⟨x, 4, none⟩ (.slice au s.log.length cu)).setCell ⟨x, 8, none⟩ (.bool false)) :=
            ((((Ext.refl [x] wo).setCell (p := ⟨x, 2, none⟩) (.inl (by simp)) _).setCell (p := ⟨x, 3, none⟩) (.inl (by simp)) _).setCell (p := ⟨x, 4, none⟩) (.inl (by simp)) _).setCell (p := ⟨x, 8, none⟩) (.inl (by simp)) _
          have hwk' := Lib.hid hwk
          clear hon e0 hsz hwk
          go_upto_region 12 with fail
          generalize (((wo.setCell ⟨x, 2, none⟩ (.int .i64 s.term)).setCell ⟨x, 3, none⟩ (.int .i64 s.vote)).setCell ⟨x, 4, none⟩ (.slice au s.log.length cu)).setCell ⟨x, 8, none⟩ (.bool false) = w6 at row6 XX6 ⊢
          have nx : ∀ q, q ∈ [x] → ∀ cur t fz, t ≠ 35 → wo.heap[q]? ≠ some (.cells cur t fz) := fun q hq cur t fz ht => by
            rw [List.mem_singleton] at hq
            subst hq
            exact R5.out.notCells ht cur fz
          have hXW : XWal B w6 x d m g (k.kept (k.get .wal).b.length was s).2 s (.slice au s.log.length cu) p pv lv' false := by
            have hxd := R5.out.ne_disk D5.out
            have hxg := H.out.xb.row.ne_wal H.out.wal
            have hwo := XX6.size
            refine ⟨⟨row6, D5.out.ext XX6 (fun q hq => ?_), HON.out.base, H.out.xb.bx, H.out.xb.bd, H.out.xb.bm, Rd.here (Rd.extM ru5 XX6 (fun q hq cur fz => nx q hq cur 29 fz (by decide)) (fun _ t ht q hq cur fz => nx q hq cur t fz ht.ne)), Rd.here (Rd.extM rp5 XX6 (fun q hq cur fz => nx q hq cur 29 fz (by decide)) (fun _ t ht q hq cur fz => nx q hq cur t fz ht.ne)), HS.out⟩, HON.out, H.out.bg, ?_, ?_⟩
            · rw [List.mem_singleton] at hq
              subst hq
              exact ⟨hxd.1, hxd.2, fun cur fz => nx _ (by simp) cur 5 fz (by decide)⟩
            · exact (hwk'.out.ext hX hgM).ext XX6 (by simp; omega)
            · exact (OwnE.extM (hol.apart hX (fun q hq => by have := (HM.out q hq).2.1; omega)) XX6 (fun q hq cur fz => nx q hq cur 29 fz (by decide))).rd
          have htd := tidy_calls hXW
          have HTD := Lib.hid htd
          have HXW := Lib.hid hXW
          clear htd hXW
          go_wp2_with (go_at_call 14; refine HTD.out.mono ?_; rintro e w9 ⟨rfl, x9⟩)
          go_ret
          have hs6 := XX6.size
          exact ⟨rfl, (HBWH.out.trans (XX6.below (Nat.le_trans (by omega) HBWH.out.size) (by simp; exact H.out.xb.bx))).trans (x9.below (by have := HBWH.out.size; omega) (by simp)), .inl ⟨_, ⟨d, m, g, _, p, _, lv', HXW.out.nil x9⟩, fun hf => (Calm.kept ⟨H.out.on.on, hf⟩ _ _ _).2⟩⟩
        · have hr0 : r = 250 := HR.out.trans e0
          subst hr0
          obtain ⟨sz5, hwk⟩ : ∃ sz', WalRow w4 g d was.term was.vote lv sz' true := by
            rcases HOR.out with ⟨_, h1⟩ | ⟨h1, _⟩
            · exact h1
            · rw [e0] at h1; cases h1
          have hwk5 := hwk.ext hX hgM
          have HW5 := Lib.hid hwk5
          have rl5 : RdE w.heap.size wo lv was.log := rl4.apart hX (fun q hq => by have := (HM.out q hq).1; omega)
          have hng : x ∉ [g] := by simp only [List.mem_singleton]; exact H.out.xb.row.ne_wal H.out.wal
          have hzg : w.heap.size ∉ [g] := by simp only [List.mem_singleton]; omega
          have hn29 : ∀ q, q ∈ [g] → ∀ cur fz, wo.heap[q]? ≠ some (.cells cur 29 fz) := fun q hq => by
            rw [List.mem_singleton] at hq
            subst hq
            exact hwk5.notCells (t := 29) (by decide)
          have hnF : ∀ t, Far t → ∀ q, q ∈ [g] → ∀ cur fz, wo.heap[q]? ≠ some (.cells cur t fz) := fun t ht q hq => by
            rw [List.mem_singleton] at hq
            subst hq
            exact hwk5.notCells (t := t) ht.ne
          have hgd := hwk5.ne D5.out
          have hfac : ∀ W, Ext [g] wo W → W.cell? ⟨x, 0, none⟩ = some (.pointer (some ⟨d, 0, none⟩)) ∧ W.cell? ⟨x, 1, none⟩ = some (.pointer (some ⟨g, 0, none⟩)) ∧ W.cell? ⟨x, 2, none⟩ = some (.int .i64 was.term) ∧ W.cell? ⟨x, 3, none⟩ = some (.int .i64 was.vote) ∧ W.cell? ⟨x, 4, none⟩ = some (.slice asv was.log.length csv) ∧
              W.cell? ⟨w.heap.size, 0, none⟩ = some (.int .i64 s.term) ∧ W.cell? ⟨w.heap.size, 1, none⟩ = some (.int .i64 s.vote) ∧ W.cell? ⟨w.heap.size, 2, none⟩ = some (.slice au s.log.length cu) := fun W hx => by
            have fx := (R5.out.ext hx hng).facts
            have fb := rowFacts ((hx.block _ (Array.getElem?_eq_some_iff.1 r5).1 hzg).trans r5)
            exact ⟨fx.c0, fx.c1, fx.c2, fx.c3, fx.c4, fb.1, fb.2.1, fb.2.2.1⟩
          have hof5 : ∀ W, Ext [] wo W → Calls Tryz.prog 27 #[.pointer (some ⟨d, 0, none⟩)] W fun e w' => e = .returned (.bool true) ∧ W = w' := fun W hx => by
            have := Off_calls (D5.out.nil hx)
            rw [hof] at this
            exact this
          have hkd : ∀ W, Ext [] wo W → Calls Tryz.prog 12 #[.pointer (some ⟨g, 0, none⟩), .agg #[.int .i64 s.term, .int .i64 s.vote, .slice au s.log.length cu]] W fun e w' => e = .returned (.int .i64 250) ∧ WalRow w' g d was.term was.vote lv sz5 true ∧ Ext [g] W w' := fun W hx =>
            Keep_down (D5.out.nil hx) (hwk5.ext hx (by simp)) s (.slice au s.log.length cu) (Rd.here (RdE.ext ru5 hx)) HS.out (.inl rfl)
          have hsv : ∀ W, Ext [g] wo W → WalRow W g d was.term was.vote lv sz5 true → Calls Tryz.prog 16 #[.pointer (some ⟨g, 0, none⟩)] W fun e w' => ∃ v', e = .returned (.agg #[.int .i64 was.term, .int .i64 was.vote, v']) ∧ OwnE w' W.heap.size v' was.log ∧ Below W.heap.size W w' := fun W hx hw =>
            Saved_calls hw was.log (Rd.here (Rd.extM rl5 hx hn29 (fun _ => hnF))) (by have := (may_parts H.out.xb.ms).2.2.2.2.1; omega)
          have hsa : ∀ W (v : Value), Ext [g] wo W → RdE W.heap.size W v was.log → Calls Tryz.prog 15 #[.agg #[.int .i64 was.term, .int .i64 was.vote, v], .agg #[.int .i64 was.term, .int .i64 was.vote, .slice asv was.log.length csv]] W fun e w' => e = .returned (.bool true) ∧ Below W.heap.size W w' := fun W v hx hv => by
            have := Same_calls v (.slice asv was.log.length csv) was was W hv (Rd.here (Rd.extM rs5 hx hn29 (fun _ => hnF)))
            rw [same_of rfl rfl rfl] at this
            exact this
          have HFAC := Lib.hid hfac
          have HOF := Lib.hid hof5
          have HKD := Lib.hid hkd
          have HSV := Lib.hid hsv
          have HSA := Lib.hid hsa
          have XD : Ext [] wo wo.drew := (Ext.refl [] wo).drew
          have XDg : Ext [g] wo wo.drew := (Ext.refl [g] wo).drew
          have HBA := Lib.hid (And.intro hba hho)
          have HOFF := Lib.hid hof
          have HE0 := Lib.hid e0
          clear hfac hof5 hkd hsv hsa hba hho hof e0 hwk hwk5
          go_upto_region 13 with fail
          go_cut [75] (fun s75 wc => s75 = .bool false ∧ Ext [g] wo wc)
          case first =>
            go_region_held3 (fun w' => w'.cell? ⟨x, 0, none⟩ = some (.pointer (some ⟨d, 0, none⟩)) ∧ w'.cell? ⟨x, 1, none⟩ = some (.pointer (some ⟨g, 0, none⟩)) ∧ w'.cell? ⟨x, 2, none⟩ = some (.int .i64 was.term) ∧ w'.cell? ⟨x, 3, none⟩ = some (.int .i64 was.vote) ∧ w'.cell? ⟨x, 4, none⟩ = some (.slice asv was.log.length csv) ∧
                w'.cell? ⟨w.heap.size, 0, none⟩ = some (.int .i64 s.term) ∧ w'.cell? ⟨w.heap.size, 1, none⟩ = some (.int .i64 s.vote) ∧ w'.cell? ⟨w.heap.size, 2, none⟩ = some (.slice au s.log.length cu))
              (first | exact HFAC.out _ (Ext.refl _ wo) | exact HFAC.out _ XDg | exact HFAC.out _ x9 | exact HFAC.out _ x8 | exact HFAC.out _ x7)
              (first
                | (go_at_call 27; refine (HOF.out _ XD).mono ?_; rintro e w6 ⟨rfl, rfl⟩)
                | (go_at_call 12; refine (HKD.out _ XD).mono ?_; rintro e w7 ⟨rfl, hw7, x7'⟩; have x7 : Ext [g] wo w7 := XDg.trans x7'; have HW7 := Lib.hid hw7; clear hw7)
                | (go_at_call 16; refine (HSV.out _ x7 HW7.out).mono ?_; rintro e w8 ⟨v8, rfl, ho8, hb8⟩; obtain ⟨a8, c8, rfl, _, _⟩ := ho8.rd.shape; have x8 : Ext [g] wo w8 := x7.cut (M1 := []) (Ext.of_below hb8) (by simp))
                | (go_at_call 15; refine (HSA.out _ _ x8 ho8.rd).mono ?_; rintro e w9 ⟨rfl, hb9⟩; have x9 : Ext [g] wo w9 := x8.cut (M1 := []) (Ext.of_below hb9) (by simp)))
            all_goals
              go_wp2_with fail
              go_meet
              exact ⟨rfl, x9⟩
          case rest =>
            obtain ⟨w9, rfl⟩ : ∃ w9 : World, w9 = wc := ⟨_, rfl⟩
            obtain ⟨rfl, x9⟩ := hcut
            have row9 := R5.out.ext x9 hng
            have r9 := (x9.block _ (Array.getElem?_eq_some_iff.1 r5).1 hzg).trans r5
            obtain ⟨q0, q1, q2, _, _, _⟩ := rowFacts r9
            have g1 := row9.facts.c1
            have g5 := row9.facts.c5
            have g6 := row9.facts.c6
            have g7 := row9.facts.c7
            have g8 := row9.facts.c8
            have f1 := row9.facts.fz 1
            have f5 := row9.facts.fz 5
            have f6 := row9.facts.fz 6
            have f7 := row9.facts.fz 7
            have f8 := row9.facts.fz 8
            have row10 := ((row9.setPerhaps s (.slice au s.log.length cu)).setSome true).setW (.pointer none)
            have XX : Ext [x] w9 (((((w9.setCell ⟨x, 5, none⟩ (.int .i64 s.term)).setCell ⟨x, 6, none⟩ (.int .i64 s.vote)).setCell ⟨x, 7, none⟩ (.slice au s.log.length cu)).setCell ⟨x, 8, none⟩ (.bool true)).setCell ⟨x, 1, none⟩ (.pointer none)) :=
              (((((Ext.refl [x] w9).setCell (p := ⟨x, 5, none⟩) (.inl (by simp)) _).setCell (p := ⟨x, 6, none⟩) (.inl (by simp)) _).setCell (p := ⟨x, 7, none⟩) (.inl (by simp)) _).setCell (p := ⟨x, 8, none⟩) (.inl (by simp)) _).setCell (p := ⟨x, 1, none⟩) (.inl (by simp)) _
            have d9 : DiskAt w9 d m (k.kept (k.get .wal).b.length was s).2 := D5.out.ext x9 (fun q hq => by
              rw [List.mem_singleton] at hq
              subst hq
              exact ⟨hgd.1, hgd.2, fun cur fz hc => by have := HW5.out; unfold WalRow at this; rw [this] at hc; cases hc⟩)
            have nx : ∀ q, q ∈ [x] → ∀ cur t fz, t ≠ 35 → w9.heap[q]? ≠ some (.cells cur t fz) := fun q hq cur t fz ht => by
              rw [List.mem_singleton] at hq
              subst hq
              exact row9.notCells ht cur fz
            have hxd := row9.ne_disk d9
            have fin : XOff B (((((w9.setCell ⟨x, 5, none⟩ (.int .i64 s.term)).setCell ⟨x, 6, none⟩ (.int .i64 s.vote)).setCell ⟨x, 7, none⟩ (.slice au s.log.length cu)).setCell ⟨x, 8, none⟩ (.bool true)).setCell ⟨x, 1, none⟩ (.pointer none)) x was s true := by
              refine ⟨d, m, _, _, _, ⟨row10, d9.ext XX (fun q hq => ?_), HBA.out.1, H.out.xb.bx, H.out.xb.bd, H.out.xb.bm, Rd.here (Rd.extM (Rd.extM rs5 x9 hn29 (fun _ => hnF)) XX (fun q hq cur fz => nx q hq cur 29 fz (by decide)) (fun _ t ht q hq cur fz => nx q hq cur t fz ht.ne)), Rd.here (Rd.extM (Rd.extM ru5 x9 hn29 (fun _ => hnF)) XX (fun q hq cur fz => nx q hq cur 29 fz (by decide)) (fun _ t ht q hq cur fz => nx q hq cur t fz ht.ne)), H.out.xb.ms⟩, HOFF.out, HBA.out.2.mono (fun y hy => ?_)⟩
              · rw [List.mem_singleton] at hq
                subst hq
                exact ⟨hxd.1, hxd.2, fun cur fz => nx _ (by simp) cur 5 fz (by decide)⟩
              · rcases hy with rfl | rfl
                · exact .inl rfl
                · exact .inr ⟨rfl, rfl⟩
            have HFIN := Lib.hid fin
            have HXX := Lib.hid XX
            clear fin row10 XX d9 nx
            go_wp2_with fail
            go_ret
            refine ⟨rfl, (HBWH.out.trans (x9.below (by have := HBWH.out.size; omega) (by simp; exact H.out.bg))).trans (HXX.out.below (by have := HBWH.out.size; have := x9.size; omega) (by simp; exact H.out.xb.bx)), .inr ⟨HFIN.out, fun hf => ?_⟩⟩
            have := (Calm.kept ⟨H.out.on.on, hf⟩ (k.get .wal).b.length was s).1
            rw [HOFF.out] at this
            cases this
end Go.Proofs.YtipbfmalacnmkaaGreat
