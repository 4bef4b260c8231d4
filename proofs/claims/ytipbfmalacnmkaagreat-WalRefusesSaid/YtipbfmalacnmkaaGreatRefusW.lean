/- WalRefuses, walked: it returns true. -/
import Derived.Test.YtipbfmalacnmkaaGreatRefus1
namespace Go.Proofs.YtipbfmalacnmkaaGreat
open Go.RowKit Go.Shelf

set_option maxRecDepth 10000 in
set_option maxHeartbeats 4000000 in
theorem refuses_walk {w : World} {u : Value} {s : Sv} (hu : RdE w.heap.size w u s.log) (hL : ∀ y ∈ s.log, y.data.size ≤ maxLen) :
    Calls Tryz.prog 4 #[.agg #[.int .i64 s.term, .int .i64 s.vote, u]] w fun e w' => e = .returned (.bool true) ∧ Below w.heap.size w w' := by
  obtain ⟨au, cu, rfl, hcu, hcm⟩ := hu.shape
  have hn : s.log.length ≤ 9223372036854775807 := by unfold maxLen at hcm; omega
  clear hcm hcu
  have HL := Lib.hid hL
  obtain ⟨W1, hW1⟩ : ∃ W1, W1 = w.alloc (.cells #[.int .i64 s.term, .int .i64 s.vote, .slice au s.log.length cu] 27) := ⟨_, rfl⟩
  have X1 : Ext [] w W1 := by rw [hW1]; exact (Ext.refl [] w).alloc _
  have r1 : W1.heap[w.heap.size]? = some (.cells #[.int .i64 s.term, .int .i64 s.vote, .slice au s.log.length cu] 27 (0, 0)) := by rw [hW1]; exact heap_alloc_new w _
  have HU1 := Lib.hid (RdE.ext hu X1)
  clear hu hL
  go_enter Tryz.func4, Tryz.ntmps4
  go_wp2_with fail
  rw [← hW1]
  clear hW1
  refine (awake_calls W1).mono ?_
  rintro e w1 ⟨rfl, b1⟩
  have x1 : Ext [] W1 w1 := Ext.of_below b1
  have rb := x1.heap r1
  have HXA := Lib.hid (X1.trans x1)
  have HU2 := Lib.hid (RdE.ext HU1.out x1)
  have HR := Lib.hid rb
  obtain ⟨q0, q1, q2, _, _, _⟩ := rowFacts rb
  clear X1 x1 b1 r1 rb
  go_upto_region 3 with fail
  go_cut [30] (fun s30 wc => ∃ c : Bool, s30 = .bool c ∧ w1 = wc)
  case first =>
    by_cases h6 : 60 < s.log.length
    · have h6' : decide (60 < (s.log.length : Int)) = true := by simp; omega
      by_cases h4 : s.log.length ≤ 4096
      · have h4' : decide ((s.log.length : Int) ≤ 4096) = true := by simp; omega
        go_wp2_with fail
        go_meet
        exact ⟨true, rfl, rfl⟩
      · have h4' : decide ((s.log.length : Int) ≤ 4096) = false := by simp; omega
        go_wp2_with fail
        go_meet
        exact ⟨false, rfl, rfl⟩
    · have h6' : decide (60 < (s.log.length : Int)) = false := by simp; omega
      go_wp2_with fail
      go_meet
      exact ⟨false, rfl, rfl⟩
  case rest =>
    obtain ⟨c, rfl, rfl⟩ := hcut
    cases c
    case true =>
      go_wp2_with fail
      go_ret
      exact ⟨rfl, HXA.out.below (Nat.le_refl _) (by simp)⟩
    case false =>
      go_wp2_with fail
      go_loopw [3] (fun s3 wr => ∃ i : Nat, i ≤ s.log.length ∧ i ≤ 60 ∧ s3 = .int .i64 i ∧ w1 = wr) (fun s3 _ => (60 - intOf s3).toNat)
      case atStart => exact ⟨0, by omega, by omega, rfl, rfl⟩
      case round =>
        obtain ⟨i, hi, h60, rfl, rfl⟩ := hrel
        go_upto_region 6 with fail
        go_cut [39] (fun s39 wc => ∃ c : Bool, s39 = .bool c ∧ Hid (c = true → i < s.log.length ∧ i < 60) ∧ w1 = wc)
        case first =>
          by_cases h1 : i < s.log.length
          · have h1' : decide ((i : Int) < (s.log.length : Int)) = true := by simp; omega
            by_cases h2 : i < 60
            · have h2' : decide ((i : Int) < 60) = true := by simp; omega
              go_wp2_with fail
              go_meet
              exact ⟨true, rfl, Lib.hid (fun _ => ⟨h1, h2⟩), rfl⟩
            · have h2' : decide ((i : Int) < 60) = false := by simp; omega
              go_wp2_with fail
              go_meet
              exact ⟨false, rfl, Lib.hid (fun h => by cases h), rfl⟩
          · have h1' : decide ((i : Int) < (s.log.length : Int)) = false := by simp; omega
            go_wp2_with fail
            go_meet
            exact ⟨false, rfl, Lib.hid (fun h => by cases h), rfl⟩
        case rest =>
          obtain ⟨c, rfl, hin, rfl⟩ := hcut
          cases c
          case true =>
            obtain ⟨hi1, hi2⟩ := hin.out rfl
            obtain ⟨b, off, rfl, _, _, hc⟩ := RdE.cell HU2.out (by omega)
            have c2 := (hc i hi1).2
            have hsz := HL.out _ (List.getElem_mem hi1)
            clear hc hin
            have hj0 : (0 : Int) ≤ (i : Int) := by omega
            have hj1 : (i : Int) < (s.log.length : Int) := by omega
            generalize hX : s.log[i].data = X at c2 hsz
            clear hX
            unfold maxLen at hsz
            by_cases h3 : 3000 < (X.size : Int)
            · go_wp2_with fail
              go_ret
              exact ⟨rfl, HXA.out.below (Nat.le_refl _) (by simp)⟩
            · have hd3 : decide (3000 < (X.size : Int)) = false := by simpa using h3
              go_wp2_with fail
              go_roundw
              case rel => exact ⟨i + 1, by omega, by omega, by go_num, trivial⟩
              case measure => simp [intOf]; omega
          case false =>
            clear hin
            go_wp2_with fail
            refine (begin_calls w1).mono ?_
            rintro e w2 ⟨x, k, rfl, hon, hf, b2⟩
            obtain ⟨d, m, g, sv, p, pv, lv, hw⟩ := hon
            have hxn : x ∉ [d, m, g] := by
              simp only [List.mem_cons, List.not_mem_nil, or_false, not_or]
              exact ⟨(hw.xb.row.ne_disk hw.xb.disk).1, (hw.xb.row.ne_disk hw.xb.disk).2, hw.xb.row.ne_wal hw.wal⟩
            have X2 : Ext [] w1 w2 := Ext.of_below b2
            have rb2 := X2.heap HR.out
            have hux : RdE w2.heap.size w2 (.slice au s.log.length cu) s.log := Rd.here (RdE.ext HU2.out X2)
            have XD0 : Ext [] w2 w2.drew := (Ext.refl [] w2).drew
            have XD : Ext [d, m, g] w2 w2.drew := (Ext.refl [d, m, g] w2).drew
            have hkr := keep_res (hw.nil XD0) hf _ (Rd.here (RdE.ext hux XD0)) HL.out
            obtain ⟨bm, hbm⟩ : ∃ bm, mayB s = bm := ⟨_, rfl⟩
            rw [hbm] at hkr
            have hlb := (Array.getElem?_eq_some_iff.1 HR.out).1
            have hbn : w.heap.size ∉ [d, m, g] := by
              have h1 := hw.xb.bd
              have h2 := hw.xb.bm
              have h3 := hw.bg
              simp only [List.mem_cons, List.not_mem_nil, or_false, not_or]
              omega
            have hfac : ∀ W, Ext [d, m, g] w2 W → W.cell? ⟨x, 1, none⟩ = some (.pointer (some ⟨g, 0, none⟩)) ∧ W.cell? ⟨w.heap.size, 0, none⟩ = some (.int .i64 s.term) ∧ W.cell? ⟨w.heap.size, 1, none⟩ = some (.int .i64 s.vote) ∧ W.cell? ⟨w.heap.size, 2, none⟩ = some (.slice au s.log.length cu) := fun W hx => by
              have fx := (hw.xb.row.ext hx hxn).facts
              have fb := rowFacts ((hx.block _ (Array.getElem?_eq_some_iff.1 rb2).1 hbn).trans rb2)
              exact ⟨fx.c1, fb.1, fb.2.1, fb.2.2.1⟩
            have HKR := Lib.hid hkr
            have HFAC := Lib.hid hfac
            have HW := Lib.hid hw
            have HF := Lib.hid hf
            have HBM := Lib.hid hbm
            have HUX := Lib.hid hux
            have HB2 := Lib.hid b2
            clear hkr hfac hw hf hbm hux rb2 b2 q0 q1 q2 X2
            go_upto_region 13 with fail
            go_cut [6] (fun s6 wc => ∃ r : Int, s6 = .int .i64 r ∧ Hid (KeepRes w1.heap.size w2.drew x d m g Sv.zero s sv p pv bm r wc))
            case first =>
              go_region_held3 (fun w' => w'.cell? ⟨x, 1, none⟩ = some (.pointer (some ⟨g, 0, none⟩)) ∧ w'.cell? ⟨w.heap.size, 0, none⟩ = some (.int .i64 s.term) ∧ w'.cell? ⟨w.heap.size, 1, none⟩ = some (.int .i64 s.vote) ∧ w'.cell? ⟨w.heap.size, 2, none⟩ = some (.slice au s.log.length cu))
                (first | exact HFAC.out _ (Ext.refl _ w2) | exact HFAC.out _ XD | exact HFAC.out _ x3)
                (first | (go_at_call 12; refine HKR.out.mono ?_; rintro e w3 ⟨r, rfl, hpost⟩; have x3 : Ext [d, m, g] w2 w3 := XD.trans hpost.ext; have HPO := Lib.hid hpost; clear hpost))
              all_goals
                go_wp2_with fail
                go_meet
                exact ⟨_, rfl, HPO⟩
            case rest =>
              obtain ⟨w3, rfl⟩ : ∃ w3 : World, w3 = wc := ⟨_, rfl⟩
              obtain ⟨r, rfl, hpo⟩ := hcut
              have x3 : Ext [d, m, g] w2 w3 := XD.trans hpo.out.ext
              obtain ⟨j1, j2, j3, j4⟩ := HFAC.out _ x3
              have hu3 : RdE w3.heap.size w3 (.slice au s.log.length cu) s.log := Rd.here (RdE.turned HUX.out x3 HW.out.xb.disk HW.out.wal)
              have hmay := May_calls (.slice au s.log.length cu) s HL.out w3 hu3
              rw [HBM.out] at hmay
              have HMAY := Lib.hid hmay
              have HU3 := Lib.hid hu3
              clear hmay hu3
              go_upto_if 64 with (go_at_call 13; refine HMAY.out.mono ?_; rintro e w4 ⟨rfl, b4⟩)
              have x4 : Ext [] w3 w4 := Ext.of_below b4
              obtain ⟨i1, i2, i3, i4⟩ := HFAC.out _ (x3.cut (M1 := []) x4 (by simp))
              have hu4 : RdE w4.heap.size w4 (.slice au s.log.length cu) s.log := Rd.here (RdE.ext HU3.out x4)
              have HU4 := Lib.hid hu4
              clear hu4 j1 j2 j3 j4 b4
              go_cut [] (fun wc => Hid (Settled w1.heap.size w2 x wc))
              case first =>
                rcases hpo.out with ⟨rfl, rfl, hx⟩ | ⟨rfl, rfl, hx, k', lv', hmid, hf'⟩
                · have hw4 := (HW.out.nil (XD0.trans hx)).nil x4
                  have HTD := Lib.hid (tidy_calls hw4)
                  have HW4 := Lib.hid hw4
                  have HX := Lib.hid ((XD0.trans hx).trans x4)
                  clear hw4 hx
                  go_wp2_with (go_at_call 14; refine HTD.out.mono ?_; rintro e w5 ⟨rfl, x5⟩)
                  go_meet
                  exact Lib.hid ⟨(HX.out.trans x5).below HB2.out.size (by simp), k, Sv.zero, ⟨d, m, g, sv, p, pv, lv, HW4.out.nil x5⟩, HF.out⟩
                · have hm4 := hmid.nil x4
                  have fx := hm4.xb.row.facts
                  have g2 := fx.c2
                  have g3 := fx.c3
                  have g4 := fx.c4
                  have f2 := fx.fz 2
                  have f3 := fx.fz 3
                  have f4 := fx.fz 4
                  have hst := hm4.store HU4.out HBM.out
                  have HX := Lib.hid (XD.trans hx)
                  have HF' := Lib.hid hf'
                  clear hx hf' hmid hm4 fx
                  go_upto_region 18 with fail
                  generalize ((w4.setCell ⟨x, 2, none⟩ (.int .i64 s.term)).setCell ⟨x, 3, none⟩ (.int .i64 s.vote)).setCell ⟨x, 4, none⟩ (.slice au s.log.length cu) = w5 at hst ⊢
                  have HTD := Lib.hid (tidy_calls hst.1)
                  have HST := Lib.hid hst
                  clear hst
                  go_wp2_with (go_at_call 14; refine HTD.out.mono ?_; rintro e w6 ⟨rfl, x6⟩)
                  go_meet
                  have hbb : Below w1.heap.size w2 w5 := ((HX.out.cut (M1 := []) x4 (by simp)).below HB2.out.size (by
                    have h1 := HW.out.xb.bd
                    have h2 := HW.out.xb.bm
                    have h3 := HW.out.bg
                    simp only [List.mem_cons, List.not_mem_nil, or_false]
                    omega)).trans (HST.out.2.below (by have := HB2.out.size; have := HX.out.size; have := x4.size; omega) (by simp; exact HW.out.xb.bx))
                  exact Lib.hid ⟨hbb.trans (x6.below (by have := hbb.size; have := HB2.out.size; omega) (by simp)), k', s, ⟨d, m, g, _, p, pv, lv', HST.out.1.nil x6⟩, HF'.out⟩
              case rest =>
                obtain ⟨w5, rfl⟩ : ∃ w5 : World, w5 = wc := ⟨_, rfl⟩
                obtain ⟨b5, k5, s5, hon5, hf5⟩ := hcut.out
                have HOP := Lib.hid (open_on hon5 hf5)
                have HB5 := Lib.hid (HB2.out.trans b5)
                clear hon5 hf5 b5 hpo i1 i2 i3 i4
                go_wp2_with fail
                refine HOP.out.mono ?_
                rintro e w6 ⟨rfl, b6, k6, s6, ⟨d6, m6, g6, sv6, p6, pv6, lv6, hw6⟩, _⟩
                have hb16 : Below w1.heap.size w1 w6 := HB5.out.trans b6
                have rb6 := (hb16.block _ hlb).trans HR.out
                obtain ⟨W7, hW7⟩ : ∃ W7, W7 = w6.alloc (.cells #[.pointer none, .int .i64 0, .int .i64 0, .slice none 0 0, .int .i64 0, .bool false] 41) := ⟨_, rfl⟩
                have X67 : Ext [] w6 W7 := by rw [hW7]; exact (Ext.refl [] w6).alloc _
                have z7 : W7.heap[w6.heap.size]? = some (.cells #[.pointer none, .int .i64 0, .int .i64 0, .slice none 0 0, .int .i64 0, .bool false] 41 (0, 0)) := by rw [hW7]; exact heap_alloc_new w6 _
                have rb7 := X67.heap rb6
                obtain ⟨y0, y1, y2, _, _, _⟩ := rowFacts rb7
                have hkn := Keep_nil s.term s.vote (.slice au s.log.length cu) W7 ⟨_, _, _, rfl⟩
                have hkz : ∀ W, Ext [] W7 W → Calls Tryz.prog 12 #[.pointer (some ⟨w6.heap.size, 0, none⟩), .agg #[.int .i64 s.term, .int .i64 s.vote, .slice au s.log.length cu]] W fun e w' => e = .returned (.int .i64 1) ∧ Ext [] W7 w' := fun W hx =>
                  (Keep_zero w6.heap.size s.term s.vote _ W (by rw [cell_of_row _ _ _ _ _ _ (hx.heap z7)]; rfl) ⟨_, _, _, rfl⟩).mono (fun e w' h => ⟨h.1, hx.trans h.2⟩)
                have hsn : ∀ W, Ext [] W7 W → Calls Tryz.prog 16 #[.pointer none] W fun e w' => e = .returned (.agg #[.int .i64 0, .int .i64 0, .slice none 0 0]) ∧ Ext [] W7 w' := fun W hx =>
                  (Saved_nil W).mono (fun e w' h => ⟨h.1, hx.trans (Ext.of_below h.2)⟩)
                have hsz : ∀ W, Ext [] W7 W → Calls Tryz.prog 16 #[.pointer (some ⟨w6.heap.size, 0, none⟩)] W fun e w' => e = .returned (.agg #[.int .i64 0, .int .i64 0, .slice none 0 0]) ∧ Ext [] W7 w' := fun W hx =>
                  (Saved_zero w6.heap.size W (by rw [cell_of_row _ _ _ _ _ _ (hx.heap z7)]; rfl)).mono (fun e w' h => ⟨h.1, hx.trans (Ext.of_below h.2)⟩)
                have hss : ∀ W, Ext [] W7 W → Calls Tryz.prog 15 #[.agg #[.int .i64 0, .int .i64 0, .slice none 0 0], .agg #[.int .i64 0, .int .i64 0, .slice none 0 0]] W fun e w' => e = .returned (.bool true) ∧ Ext [] W7 w' := fun W hx =>
                  (same_zero W).mono (fun e w' h => ⟨h.1, hx.trans (Ext.of_below h.2)⟩)
                have HKN := Lib.hid hkn
                have HKZ := Lib.hid hkz
                have HSN := Lib.hid hsn
                have HSZ := Lib.hid hsz
                have HSS := Lib.hid hss
                have HW6 := Lib.hid hw6
                have HB16 := Lib.hid hb16
                have HRB7 := Lib.hid rb7
                clear hkn hkz hsn hsz hss hw6 hb16 rb6 rb7 z7 b6
                go_upto_region 24 with fail
                rw [← hW7]
                clear hW7
                go_cut [111] (fun s111 wc => s111 = .bool false ∧ Ext [] W7 wc)
                case first =>
                  go_wp2_with (first
                    | (go_at_call 12; refine (HKZ.out _ x8).mono ?_; rintro e w9 ⟨rfl, x9⟩)
                    | (go_at_call 12; refine HKN.out.mono ?_; rintro e w8 ⟨rfl, x8⟩; obtain ⟨y0', y1', y2', _, _, _⟩ := rowFacts (x8.heap HRB7.out))
                    | (go_at_call 16; refine (HSZ.out _ x11).mono ?_; rintro e w12 ⟨rfl, x12⟩)
                    | (go_at_call 16; refine (HSN.out _ x9).mono ?_; rintro e w10 ⟨rfl, x10⟩)
                    | (go_at_call 15; refine (HSS.out _ x12).mono ?_; rintro e w13 ⟨rfl, x13⟩)
                    | (go_at_call 15; refine (HSS.out _ x10).mono ?_; rintro e w11 ⟨rfl, x11⟩))
                  go_meet
                  exact ⟨rfl, x13⟩
                case rest =>
                  obtain ⟨w8, rfl⟩ : ∃ w8 : World, w8 = wc := ⟨_, rfl⟩
                  obtain ⟨rfl, x8⟩ := hcut
                  have HX8 := Lib.hid (X67.trans x8)
                  clear y0 y1 y2 x8 X67
                  go_upto_region 27 with fail
                  go_cut [10, 12] (fun s10 s12 wc => s10 = .pointer none ∧ s12 = .int .i64 1 ∧ Ext [] w8 wc)
                  case first =>
                    have HOB := Lib.hid (Open_bad (.pointer none) w8 (fun W _ => goes_nil W) (.inl rfl))
                    go_wp2_with (go_at_call 17; refine HOB.out.mono ?_; rintro e w9 ⟨rfl, x9⟩)
                    go_meet
                    first
                      | exact ⟨rfl, rfl, x9.alloc _⟩
                      | exact ⟨rfl, rfl, (x9.alloc _).row3 (.inr x9.size) _ _ _⟩
                  case rest =>
                    obtain ⟨w9, rfl⟩ : ∃ w9 : World, w9 = wc := ⟨_, rfl⟩
                    obtain ⟨rfl, rfl, x9⟩ := hcut
                    have HX9 := Lib.hid (HX8.out.trans x9)
                    clear x9
                    go_upto_region 28 with fail
                    go_cut [13, 15] (fun s13 s15 wc => s13 = .pointer none ∧ s15 = .int .i64 1 ∧ Ext [] w9 wc)
                    case first =>
                      obtain ⟨W10, hW10⟩ : ∃ W10, W10 = w9.alloc (.cells #[.map none, .bool false, .int .i64 0] 48) := ⟨_, rfl⟩
                      have X10 : Ext [] w9 W10 := by rw [hW10]; exact (Ext.refl [] w9).alloc _
                      have z10 : W10.heap[w9.heap.size]? = some (.cells #[.map none, .bool false, .int .i64 0] 48 (0, 0)) := by rw [hW10]; exact heap_alloc_new w9 _
                      have HOB := Lib.hid (Open_bad (.pointer (some ⟨w9.heap.size, 0, none⟩)) W10 (fun W hx => goes_zero w9.heap.size W (by rw [cell_of_row _ _ _ _ _ _ (hx.heap z10)]; rfl)) (.inr ⟨_, rfl⟩))
                      clear z10
                      go_wp2_with fail
                      rw [← hW10]
                      clear hW10
                      refine HOB.out.mono ?_
                      rintro e w10 ⟨rfl, x10⟩
                      have x9' := X10.trans x10
                      go_wp2_with fail
                      go_meet
                      first
                        | exact ⟨rfl, rfl, x9'.alloc _⟩
                        | exact ⟨rfl, rfl, (x9'.alloc _).row3 (.inr x9'.size) _ _ _⟩
                    case rest =>
                      obtain ⟨w10, rfl⟩ : ∃ w10 : World, w10 = wc := ⟨_, rfl⟩
                      obtain ⟨rfl, rfl, x10⟩ := hcut
                      have hw10 := HW6.out.nil (HX9.out.trans x10)
                      have X10 := HX9.out.trans x10
                      obtain ⟨e0, fo, hb0, _, hoff, hlen⟩ := kF_facts hw10.on
                      have c0 := hw10.xb.row.facts.c0
                      have hx6 : x ∉ [d6, m6] := by
                        simp only [List.mem_cons, List.not_mem_nil, or_false, not_or]
                        exact hw10.xb.row.ne_disk hw10.xb.disk
                      have hg6 : g6 ∉ [d6, m6] := by
                        simp only [List.mem_cons, List.not_mem_nil, or_false, not_or]
                        exact hw10.wal.ne hw10.xb.disk
                      have hxg : x ∉ [g6] := by
                        simp only [List.mem_cons, List.not_mem_nil, or_false]
                        exact hw10.xb.row.ne_wal hw10.wal
                      have hfu := Fuse_calls hw10.xb.disk 0
                      rw [e0] at hfu
                      have hap : ∀ W, DiskAt W d6 m6 (kF k6) → Calls Tryz.prog 19 #[.pointer (some ⟨d6, 0, none⟩), .string ⟨#[111, 116, 104, 101, 114]⟩, .slice none 0 0] W fun e w' => e = .returned (.int .i64 250) ∧ DiskAt w' d6 m6 (kO k6) ∧ Ext [d6, m6] W w' := fun W hd => by
                        have h := Append_calls hd fo .other (.slice none 0 0) [] (Rd.nil _ _ _ _) hb0
                        rw [kO_append hw10.on] at h
                        exact h
                      have HFU := Lib.hid hfu
                      have HAP := Lib.hid hap
                      have HOFF := Lib.hid (And.intro hoff hlen)
                      have HW10 := Lib.hid hw10
                      have HX10 := Lib.hid X10
                      clear hfu hap hoff hlen hw10 X10 x10 e0 fo hb0
                      go_upto_region 31 with (first
                        | (go_at_call 18; refine HFU.out.mono ?_; rintro e w11 ⟨rfl, d11, x11'⟩; have x11 : Ext [d6, m6] w10 w11 := x11'.mono (by simp; omega); have c11 := (HW10.out.xb.row.ext x11 hx6).facts.c0)
                        | (go_at_call 19; refine (HAP.out _ d11).mono ?_; rintro e w12 ⟨rfl, d12, x12'⟩; have x12 := x11.trans x12'; have c12 := (HW10.out.xb.row.ext x12 hx6).facts.c0))
                      have D12 := Lib.hid d12
                      have HX12 := Lib.hid x12
                      clear d11 d12 x11 x12 x11' x12' c11 c0
                      go_cut [16, 18] (fun s16 s18 wc => s16 = .pointer none ∧ s18 = .int .i64 250 ∧ Ext [] w12 wc)
                      case first =>
                        have HOB := Lib.hid (Open_off D12.out HOFF.out.1 HOFF.out.2)
                        go_wp2_with (go_at_call 17; refine HOB.out.mono ?_; rintro e w13 ⟨rfl, x13⟩)
                        go_meet
                        first
                          | exact ⟨rfl, rfl, x13.alloc _⟩
                          | exact ⟨rfl, rfl, (x13.alloc _).row3 (.inr x13.size) _ _ _⟩
                      case rest =>
                        obtain ⟨w13, rfl⟩ : ∃ w13 : World, w13 = wc := ⟨_, rfl⟩
                        obtain ⟨rfl, rfl, x13⟩ := hcut
                        have hw13 := (HW10.out.wal.ext HX12.out hg6).ext x13 (by simp)
                        have row13 := (HW10.out.xb.row.ext HX12.out hx6).ext x13 (by simp)
                        have hkd : ∀ W, Ext [] w13 W → Calls Tryz.prog 12 #[.pointer (some ⟨g6, 0, none⟩), .agg #[.int .i64 0, .int .i64 (-1), .slice none 0 0]] W fun e w' => e = .returned (.int .i64 250) ∧ Ext [g6] w13 w' := fun W hx =>
                          (Keep_down ((D12.out.nil x13).nil hx) (hw13.ext hx (by simp)) ⟨0, -1, []⟩ (.slice none 0 0) (RdE.nil _ _) (by decide) (.inr HOFF.out.1)).mono (fun e w' h => ⟨h.1, ((Ext.refl [g6] w13).cut (M1 := []) hx (by simp)).trans h.2.2⟩)
                        have hfac : ∀ W, Ext [g6] w13 W → W.cell? ⟨x, 1, none⟩ = some (.pointer (some ⟨g6, 0, none⟩)) := fun W hx => (row13.ext hx hxg).facts.c1
                        have HKD := Lib.hid hkd
                        have HFC := Lib.hid hfac
                        have HX13 := Lib.hid x13
                        have XDn : Ext [] w13 w13.drew := (Ext.refl [] w13).drew
                        have XDg : Ext [g6] w13 w13.drew := (Ext.refl [g6] w13).drew
                        clear hkd hfac hw13 row13 x13 c12
                        go_upto_region 32 with fail
                        go_region_held3 (fun w' => w'.cell? ⟨x, 1, none⟩ = some (.pointer (some ⟨g6, 0, none⟩)))
                          (first | exact HFC.out _ (Ext.refl _ w13) | exact HFC.out _ XDg | exact HFC.out _ x15 | exact HFC.out _ (Ext.nil x14))
                          (first
                            | (go_at_call 12; refine (HKD.out _ x14).mono ?_; rintro e w15 ⟨rfl, x15⟩)
                            | (go_at_call 20; refine (Nothing_calls _).mono ?_; rintro e w14 ⟨rfl, hb14⟩; have x14 : Ext [] w13 w14 := XDn.trans (Ext.of_below hb14)))
                        all_goals
                          go_wp2_with fail
                          go_ret
                          have XF : Ext [d6, m6, g6] w6 w15 := ((((Ext.refl [d6, m6, g6] w6).cut (M1 := []) HX10.out (by simp)).cut (M1 := [d6, m6]) HX12.out (by simp)).cut (M1 := []) HX13.out (by simp)).cut (M1 := [g6]) x15 (by simp)
                          have h1 := HW6.out.xb.bd
                          have h2 := HW6.out.xb.bm
                          have h3 := HW6.out.bg
                          refine ⟨rfl, (HXA.out.below (Nat.le_refl _) (by simp)).trans ((HB16.out.trans (XF.below HB16.out.size ?_)).mono HXA.out.size)⟩
                          simp only [List.mem_cons, List.not_mem_nil, or_false]
                          omega
end Go.Proofs.YtipbfmalacnmkaaGreat
