/- wal.Keep where it keeps. -/
import Derived.Test.YtipbfmalacnmkaaGreatKeep1
import Derived.Test.YtipbfmalacnmkaaGreatPlain
namespace Go.Proofs.YtipbfmalacnmkaaGreat
open Go.RowKit Go.Shelf

def KeepPost (w : World) (d m g : Nat) (k : Dk) (sz : Nat) (was s : Sv) (lv : Value) (e : Ending) (w' : World) : Prop :=
  e = .returned (.int .i64 (k.kept sz was s).1) ∧ DiskAt w' d m (k.kept sz was s).2 ∧ Ext [d, m, g] w w' ∧
  (((k.kept sz was s).1 ≠ 0 ∧ ∃ sz', WalRow w' g d was.term was.vote lv sz' true) ∨
   ((k.kept sz was s).1 = 0 ∧ ∃ lv', WalRow w' g d s.term s.vote lv' (keptSize sz was s) false ∧ OwnE w' w.heap.size lv' s.log))
/-- Behind the switch. -/
def KeptMid (w : World) (d m g : Nat) (k : Dk) (sz : Nat) (was s : Sv) (lv : Value) (r : Int) (w' : World) : Prop :=
  r = (k.kept sz was s).1 ∧ DiskAt w' d m (k.kept sz was s).2 ∧ Ext [d, m, g] w w' ∧
  ∃ sz', WalRow w' g d was.term was.vote lv sz' false ∧ ((k.kept sz was s).1 = 0 → sz' = keptSize sz was s)

theorem WalRow.kept {w : World} {g d z : Nat} {T V : Int} {lv : Value} {sz : Nat} {down : Bool} (h : WalRow w g d T V lv sz down) (hz : g ≠ z) (T' V' : Int) (lv' : Value) :
    WalRow ((((w.setCell ⟨z, 2, none⟩ lv').setCell ⟨g, 1, none⟩ (.int .i64 T')).setCell ⟨g, 2, none⟩ (.int .i64 V')).setCell ⟨g, 3, none⟩ lv') g d T' V' lv' sz down :=
  heap_set (o := 3) lv' (heap_set (o := 2) (.int .i64 V') (heap_set (o := 1) (.int .i64 T') ((Below.heap_setCell w ⟨z, 2, none⟩ lv' g hz).trans h)))
theorem WalRow.setDown {w : World} {g d : Nat} {T V : Int} {lv : Value} {sz : Nat} {down : Bool} (h : WalRow w g d T V lv sz down) : WalRow (w.setCell ⟨g, 5, none⟩ (.bool true)) g d T V lv sz true := heap_set (o := 5) (.bool true) h
theorem WalRow.ne {w : World} {g d m : Nat} {k : Dk} {T V : Int} {lv : Value} {sz : Nat} {down : Bool} (hw : WalRow w g d T V lv sz down) (hd : DiskAt w d m k) : g ≠ d ∧ g ≠ m := by
  obtain ⟨gm, hrow, hmap, _⟩ := hd
  constructor
  · rintro rfl; unfold WalRow at hw; rw [hrow] at hw; cases hw
  · rintro rfl; obtain ⟨es, clock, hblk⟩ := hmap.block; unfold WalRow at hw; rw [hw] at hblk; cases hblk
theorem WalRow.notCells {w : World} {g d : Nat} {T V : Int} {lv : Value} {sz : Nat} {down : Bool} {t : Nat} (hw : WalRow w g d T V lv sz down) (ht : t ≠ 41) : ∀ cur fz, w.heap[g]? ≠ some (.cells cur t fz) := by
  intro cur fz hc
  unfold WalRow at hw
  rw [hw] at hc
  cases hc
  exact ht rfl
theorem DiskAt.notCells {w : World} {d m : Nat} {k : Dk} {t : Nat} (hd : DiskAt w d m k) (ht : t ≠ 48) : ∀ x ∈ [d, m], ∀ cur fz, w.heap[x]? ≠ some (.cells cur t fz) := by
  intro q hq cur fz hc
  simp only [List.mem_cons, List.not_mem_nil, or_false] at hq
  obtain ⟨gm, hrow, hmap, _⟩ := hd
  rcases hq with rfl | rfl
  · rw [hrow] at hc; cases hc; exact ht rfl
  · obtain ⟨es, clock, hblk⟩ := hmap.block; rw [hblk] at hc; cases hc
/-- Entries read as before where the disk and the wal have turned. -/
theorem RdE.turned {B : Nat} {w w' : World} {d m g : Nat} {k : Dk} {T V : Int} {lv : Value} {sz : Nat} {down : Bool} {v : Value} {L : List Ent} (h : RdE B w v L) (hx : Ext [d, m, g] w w') (hd : DiskAt w d m k) (hw : WalRow w g d T V lv sz down) : RdE B w' v L :=
  Rd.extM h hx (fun q hq cur fz hc => by
    simp only [List.mem_cons, List.not_mem_nil, or_false] at hq
    rcases hq with rfl | rfl | rfl
    · exact hd.notCells (t := 29) (by decide) q (by simp) cur fz hc
    · exact hd.notCells (t := 29) (by decide) q (by simp) cur fz hc
    · exact hw.notCells (t := 29) (by decide) cur fz hc) (fun _ t ht q hq cur fz hc => by
    simp only [List.mem_cons, List.not_mem_nil, or_false] at hq
    rcases hq with rfl | rfl | rfl
    · exact hd.notCells (t := t) ht.ne q (by simp) cur fz hc
    · exact hd.notCells (t := t) ht.ne q (by simp) cur fz hc
    · exact hw.notCells (t := t) ht.ne cur fz hc)

set_option maxRecDepth 10000 in
set_option maxHeartbeats 2000000 in
theorem Keep_calls {w : World} {g d m : Nat} {k : Dk} {was : Sv} {lv : Value} {sz : Nat} (hd : DiskAt w d m k) (hfu : k.fuseOk) (hoff : k.off = false) (hw : WalRow w g d was.term was.vote lv sz false) (hlv : RdE w.heap.size w lv was.log)
    (s : Sv) (u : Value) (hu : RdE w.heap.size w u s.log) (hs : mayB s = true) (hsz : sz ≤ 549755813888) (hfs : (k.get .wal).b.length ≤ 549755813888) :
    Calls Tryz.prog 12 #[.pointer (some ⟨g, 0, none⟩), .agg #[.int .i64 s.term, .int .i64 s.vote, u]] w fun e w' => KeepPost w d m g k sz was s lv e w' := by
  obtain ⟨au, cu, rfl, _, _⟩ := hu.shape
  obtain ⟨al, cl, rfl, _, _⟩ := hlv.shape
  have lg := hw.lt
  have ld := hd.lt
  have lm := hd.ltm
  have hL : ∀ x ∈ s.log, x.data.size ≤ maxLen := fun x hx => by
    have := (entOk_parts (List.all_eq_true.1 (may_parts hs).2.2.2.2.2 x hx)).2.2
    unfold maxLen; omega
  have X1 : Ext [] w (w.alloc (.cells #[.int .i64 s.term, .int .i64 s.vote, .slice au s.log.length cu] 27)) := (Ext.refl [] w).alloc _
  have hbox : (w.alloc (.cells #[.int .i64 s.term, .int .i64 s.vote, .slice au s.log.length cu] 27)).heap[w.heap.size]? = some (.cells #[.int .i64 s.term, .int .i64 s.vote, .slice au s.log.length cu] 27 (0, 0)) := heap_alloc_new w _
  have hmay := may_calls (.slice au s.log.length cu) s hL (w.alloc (.cells #[.int .i64 s.term, .int .i64 s.vote, .slice au s.log.length cu] 27)) (RdE.mono (Rd.ext hu X1) X1.size)
  rw [hs] at hmay
  have HM := Lib.hid hmay
  have h00 := hw.c0
  have hrl := record_le was s hs
  have hbl := run_record_le was s hs
  have hfl := run_record_le Sv.zero s hs
  have HS := Lib.hid hs
  have HFU := Lib.hid hfu
  clear hmay hL hs hfu
  go_enter Tryz.func12, Tryz.ntmps12
  go_upto_region 8 with (first
    | (go_at_call 28; refine HM.out.mono ?_; rintro e w2 ⟨rfl, b2⟩; have x2 := X1.trans (Ext.of_below b2); have r2 := hw.ext x2 (by simp); have p0 := r2.c0; have p5 := r2.c5; have f5 := r2.f 5; have hof := Off_calls (hd.nil x2); rw [hoff] at hof)
    | (go_at_call 27; refine hof.mono ?_; rintro e w3 ⟨rfl, rfl⟩))
  have row8 := (Ext.of_below b2).heap hbox
  obtain ⟨y0, y1, y2, y3, y4, y5⟩ := rowFacts row8
  have p1 := r2.c1
  have p2 := r2.c2
  have p3 := r2.c3
  have hrec := record_calls (.slice al was.log.length cl) (.slice au s.log.length cu) was s w2.drew (RdE.mono (Rd.ext hlv (x2.drewN 1)) x2.size) (RdE.mono (Rd.ext hu (x2.drewN 1)) x2.size) HS.out
  have HREC := Lib.hid hrec
  clear hrec
  generalize hB : run (record was s) = b at *
  have HB := Lib.hid hB
  clear hB
  go_cut [5] (fun s5 wc => ∃ a5 c5, s5 = .slice a5 b.length c5 ∧ RdB wc.heap.size wc (.slice a5 b.length c5) b ∧ Ext [] w2 wc)
  case first =>
    go_region_with (first
      | (go_at_call 30; refine HREC.out.mono ?_; rintro e w4 ⟨v4, rfl, o4, b4⟩)
      | (go_at_call 29; refine (run_calls v4 _ (by omega) w4 o4.rd).mono ?_
         rintro e w5 ⟨v5, rfl, o5, b5⟩
         rw [HB.out] at o5
         obtain ⟨a5, c5, rfl, _, _⟩ := o5.rd.shape))
    all_goals
      go_wp2_with fail
      go_meet
      exact ⟨a5, c5, rfl, o5.rd, ((Ext.refl [] w2).drewN 1).trans ((Ext.of_below b4).trans (Ext.of_below b5))⟩
  case rest =>
    obtain ⟨w9, rfl⟩ : ∃ w9 : World, w9 = wc := ⟨_, rfl⟩
    obtain ⟨a5, c5, rfl, rb5, x28⟩ := hcut
    have x9 : Ext [] w w9 := x2.trans x28
    have r9 := r2.ext x28 (by simp)
    have row9 := x28.heap row8
    have d9 := hd.nil x9
    clear y0 y1 y2 y3 y4 y5 p0 p1 p2 p3 p5 f5 hof HREC HM
    obtain ⟨y0, y1, y2, y3, y4, y5⟩ := rowFacts row9
    have hrec2 := record_calls (.slice none 0 0) (.slice au s.log.length cu) Sv.zero s w9 (Rd.nil _ _ _ _) (RdE.mono (Rd.ext hu x9) x9.size) HS.out
    have HREC := Lib.hid hrec2
    have hfl' : (fullOf s).length ≤ 573440300 := hfl
    have hrl2 := record_le Sv.zero s HS.out
    clear hrec2 hfl
    go_upto_block 1 with (first
      | (go_at_call 30; refine HREC.out.mono ?_; rintro e w4 ⟨v4, rfl, o4, b4⟩)
      | (go_at_call 29; refine (run_calls v4 _ (by omega) w4 o4.rd).mono ?_
         rintro e w5 ⟨v5, rfl, o5, b5⟩
         change OwnB _ _ _ (fullOf s) at o5
         obtain ⟨a6, c6, rfl, _, _⟩ := o5.rd.shape))
    have x95 : Ext [] w9 w5 := (Ext.of_below b4).trans (Ext.of_below b5)
    have row5 := x95.heap row9
    clear y0 y1 y2 y3 y4 y5
    obtain ⟨z0, z1, z2, z3, z4, z5⟩ := rowFacts row5
    have r5 := r9.ext x95 (by simp)
    have q0 := r5.c0
    have q1 := r5.c1
    have q2 := r5.c2
    have q3 := r5.c3
    have q4 := r5.c4
    have x5w := x9.trans x95
    have d5 := hd.nil x5w
    have ru5 : RdE w5.heap.size w5 (.slice au s.log.length cu) s.log := RdE.mono (Rd.ext hu x5w) x5w.size
    have rl5 : RdE w5.heap.size w5 (.slice al was.log.length cl) was.log := RdE.mono (Rd.ext hlv x5w) x5w.size
    have rb55 : RdB w5.heap.size w5 (.slice a5 b.length c5) b := RdB.mono (RdB.ext rb5 x95) x95.size
    have hne := r5.ne d5
    go_cut [6] (fun s6 w6 => ∃ r : Int, s6 = .int .i64 r ∧ KeptMid w5 d m g k sz was s (.slice al was.log.length cl) r w6)
    case first =>
      by_cases hrw : 4096 + 2 * (fullOf s).length < sz + b.length
      · have hdec : decide (4096 + 2 * ((fullOf s).length : Int) < (sz : Int) + b.length) = true := by simp; omega
        have hk : k.kept sz was s = k.anew (fullOf s) := by unfold Dk.kept rewrites; rw [HB.out]; simp [hrw]
        have hks : keptSize sz was s = (fullOf s).length := by unfold keptSize rewrites; rw [HB.out]; simp [hrw]
        have HK := Lib.hid hk
        have HKS := Lib.hid hks
        have han := anew_calls d5 HFU.out r5 s (.slice au s.log.length cu) ru5 HS.out
        have HAN := Lib.hid han
        clear hk hks han
        go_wp2_with (go_at_call 31; refine HAN.out.mono ?_; rintro e w6 ⟨rfl, d6, x6, row6⟩)
        go_meet
        refine ⟨_, rfl, by rw [HK.out], by rw [HK.out]; exact d6, x6, _, row6, ?_⟩
        rw [HK.out, HKS.out]
        intro h0
        rw [if_pos h0]
      · have hdec : decide (4096 + 2 * ((fullOf s).length : Int) < (sz : Int) + b.length) = false := by simp; omega
        have hre : rewrites sz was s = false := by unfold rewrites; rw [HB.out]; simp; omega
        cases hch : changed was s with
        | true =>
          have hk : k.kept sz was s = k.more b := by unfold Dk.kept; rw [hre, hch, HB.out]; rfl
          have hks : keptSize sz was s = sz + b.length := by unfold keptSize; rw [hre, hch, HB.out]; rfl
          have HK := Lib.hid hk
          have HKS := Lib.hid hks
          have hmo := fun W (hx : Ext [] w5 W) => more_calls (d5.nil hx) HFU.out (r5.ext hx (by simp)) (.slice a5 b.length c5) b (RdB.mono (RdB.ext rb55 hx) hx.size) (by omega) (by omega)
          have HMO := Lib.hid hmo
          have fin : ∀ W w6, Ext [] w5 W → DiskAt w6 d m (k.more b).2 → Ext [d, m, g] W w6 → WalRow w6 g d was.term was.vote (.slice al was.log.length cl) (if (k.more b).1 = 0 then sz + b.length else sz) false → KeptMid w5 d m g k sz was s (.slice al was.log.length cl) (k.more b).1 w6 := by
            intro W w6 hx d6 x6 row6
            refine ⟨by rw [HK.out], by rw [HK.out]; exact d6, ((Ext.refl [d, m, g] w5).cut (M1 := []) hx (by simp)).trans x6, _, row6, ?_⟩
            rw [HK.out, HKS.out]
            intro h0
            rw [if_pos h0]
          have FIN := Lib.hid fin
          clear hk hks hmo fin hrw
          have hun := hch
          unfold changed at hun
          by_cases hT : s.term = was.term
          · have hTb : (s.term == was.term) = true := by simpa using hT
            have hTn : (s.term != was.term) = false := by simpa using hT
            by_cases hV : s.vote = was.vote
            · have hVb : (s.vote == was.vote) = true := by simpa using hV
              have hVn : (s.vote != was.vote) = false := by simpa using hV
              have hLL : decide (s.log = was.log) = false := by simpa [hT, hV] using hun
              have heq := fun n => Equal_calls (.slice au s.log.length cu) (.slice al was.log.length cl) s.log was.log (w5.drewN n) ru5 rl5
              rw [hLL] at heq
              have HEQ := Lib.hid heq
              clear hT hV hun heq hLL hch
              go_upto_region 13 with fail
              go_quiet ((go_at_call 32; exact Calls.quiet_of (HEQ.out _)))
              go_wp2_with (go_at_call 33; refine (HMO.out _ ((Ext.refl [] w5).drewN _)).mono ?_; rintro e w6 ⟨rfl, d6, x6, row6⟩)
              go_meet
              exact ⟨_, rfl, FIN.out _ _ ((Ext.refl [] w5).drewN _) d6 x6 row6⟩
            · have hVb : (s.vote == was.vote) = false := by simpa using hV
              have hVn : (s.vote != was.vote) = true := by simpa using hV
              clear hT hV hun hch
              go_upto_region 13 with fail
              go_quiet (fail)
              go_wp2_with (go_at_call 33; refine (HMO.out _ ((Ext.refl [] w5).drewN _)).mono ?_; rintro e w6 ⟨rfl, d6, x6, row6⟩)
              go_meet
              exact ⟨_, rfl, FIN.out _ _ ((Ext.refl [] w5).drewN _) d6 x6 row6⟩
          · have hTb : (s.term == was.term) = false := by simpa using hT
            have hTn : (s.term != was.term) = true := by simpa using hT
            clear hT hun hch
            go_upto_region 13 with fail
            go_quiet (fail)
            go_wp2_with (go_at_call 33; refine (HMO.out _ ((Ext.refl [] w5).drewN _)).mono ?_; rintro e w6 ⟨rfl, d6, x6, row6⟩)
            go_meet
            exact ⟨_, rfl, FIN.out _ _ ((Ext.refl [] w5).drewN _) d6 x6 row6⟩
        | false =>
          have hk : k.kept sz was s = (0, k) := by unfold Dk.kept; rw [hre, hch]; rfl
          have hks : keptSize sz was s = sz := by unfold keptSize; rw [hre, hch]; rfl
          have HK := Lib.hid hk
          have HKS := Lib.hid hks
          have hun := hch
          unfold changed at hun
          have hT : s.term = was.term := by simp at hun; omega
          have hV : s.vote = was.vote := by simp at hun; omega
          have hLL : decide (s.log = was.log) = true := by simp at hun; simp [hun]
          have hTb : (s.term == was.term) = true := by simpa using hT
          have hTn : (s.term != was.term) = false := by simpa using hT
          have hVb : (s.vote == was.vote) = true := by simpa using hV
          have hVn : (s.vote != was.vote) = false := by simpa using hV
          have heq := fun n => Equal_calls (.slice au s.log.length cu) (.slice al was.log.length cl) s.log was.log (w5.drewN n) ru5 rl5
          rw [hLL] at heq
          have HEQ := Lib.hid heq
          clear hT hV hun heq hLL hch hk hks hrw
          go_upto_region 13 with fail
          go_quiet ((go_at_call 32; exact Calls.quiet_of (HEQ.out _)))
          go_wp2_with fail
          go_meet
          refine ⟨0, rfl, by rw [HK.out], by rw [HK.out]; exact d5.nil ((Ext.refl [] w5).drewN _), (Ext.refl _ w5).drewN _, sz, r5.ext ((Ext.refl [] w5).drewN _) (by simp), ?_⟩
          intro _
          rw [HKS.out]
    case rest =>
      obtain ⟨w6, rfl⟩ : ∃ w6 : World, w6 = wc := ⟨_, rfl⟩
      obtain ⟨r, rfl, hr, d6, x6, sz6, row6, hsz6⟩ := hcut
      have hzn : w.heap.size ∉ [d, m, g] := by simp; omega
      have rowc := (x6.block w.heap.size (Array.getElem?_eq_some_iff.1 row5).1 hzn).trans row5
      have ru6 : RdE w6.heap.size w6 (.slice au s.log.length cu) s.log := RdE.mono (RdE.turned ru5 x6 d5 r5) x6.size
      have hsl : s.log.length ≤ 1099511627776 := by have := (may_parts HS.out).2.2.2.2.1; omega
      have hcl := Clone_calls _ s.log hsl w6 ru6
      have HCL := Lib.hid hcl
      have x6w : Ext [d, m, g] w w6 := ((Ext.refl [d, m, g] w).cut (M1 := []) x5w (by simp)).trans x6
      clear z0 z1 z2 z3 z4 z5 q0 q1 q2 q3 q4 hcl
      obtain ⟨z0, z1, z2, z3, z4, z5⟩ := rowFacts rowc
      have g0 := row6.c0
      have g5 := row6.c5
      have e5 := row6.f 5
      have hgz : g ≠ w.heap.size := by omega
      have HR := Lib.hid hr
      have HZ := Lib.hid hsz6
      clear hr hsz6
      by_cases h0 : r = 0
      · obtain rfl := h0
        go_wp2_with (go_at_call 34; refine HCL.out.mono ?_
                     rintro e w7 ⟨v7, rfl, o7, b7⟩
                     obtain ⟨a7, c7, rfl, _, _⟩ := o7.rd.shape
                     have row7 := (Ext.of_below b7).heap rowc
                     have r7 := row6.ext (M := []) (Ext.of_below b7) (by simp)
                     have hsz7 := b7.size
                     obtain ⟨s0, s1, s2, s3, s4, s5⟩ := rowFacts row7
                     have g0 := r7.c0
                     have g1 := r7.c1
                     have g2 := r7.c2
                     have g3 := r7.c3
                     have e1 := r7.f 1
                     have e2 := r7.f 2
                     have e3 := r7.f 3)
        go_ret
        have w8 := WalRow.kept r7 hgz s.term s.vote (.slice a7 s.log.length c7)
        have x7 : Ext [d, m, g] w w7 := x6w.cut (M1 := []) (Ext.of_below b7) (by simp)
        have x78 : Ext [w.heap.size, g] w7 ((((w7.setCell ⟨w.heap.size, 2, none⟩ (.slice a7 s.log.length c7)).setCell ⟨g, 1, none⟩ (.int .i64 s.term)).setCell ⟨g, 2, none⟩ (.int .i64 s.vote)).setCell ⟨g, 3, none⟩ (.slice a7 s.log.length c7)) :=
          (((Ext.refl [w.heap.size, g] w7).setCell (p := ⟨w.heap.size, 2, none⟩) (.inl (by simp)) _).setCell (p := ⟨g, 1, none⟩) (.inl (by simp)) _ |>.setCell (p := ⟨g, 2, none⟩) (.inl (by simp)) _).setCell (p := ⟨g, 3, none⟩) (.inl (by simp)) _
        have hw6z : w5.heap.size ≤ w6.heap.size := x6.size
        have hw5z : w.heap.size < w5.heap.size := (Array.getElem?_eq_some_iff.1 row5).1
        refine ⟨by rw [← HR.out]; rfl, ?_, x7.cut x78 (by simp), .inr ⟨by rw [← HR.out], .slice a7 s.log.length c7, ?_, ?_⟩⟩
        · refine (d6.nil (Ext.of_below b7)).ext x78 (fun q hq => ?_)
          simp only [List.mem_cons, List.not_mem_nil, or_false] at hq
          rcases hq with rfl | rfl
          · exact ⟨by omega, by omega, fun cur fz hc => by rw [row7] at hc; cases hc⟩
          · exact ⟨hne.1, hne.2, r7.notCells (t := 5) (by decide)⟩
        · rw [← HZ.out HR.out.symm]; exact w8
        · exact ((((o7.setBelow (by omega) _).setBelow (by omega) _).setBelow (by omega) _).setBelow (by omega) _).lower (by omega)
      · have hb0 : (r == 0) = false := by simpa using h0
        have hb1 : (r != 0) = true := by simpa using h0
        have H0 := Lib.hid h0
        clear h0
        go_wp2_with fail
        go_ret
        have xs : Ext [g] w6 (w6.setCell ⟨g, 5, none⟩ (.bool true)) := (Ext.refl [g] w6).setCell (p := ⟨g, 5, none⟩) (.inl (by simp)) _
        refine ⟨by rw [← HR.out]; rfl, ?_, x6w.cut xs (by simp), .inl ⟨by rw [← HR.out]; exact H0.out, sz6, row6.setDown⟩⟩
        refine d6.ext xs (fun q hq => ?_)
        rw [List.mem_singleton] at hq
        subst hq
        exact ⟨hne.1, hne.2, row6.notCells (t := 5) (by decide)⟩
end Go.Proofs.YtipbfmalacnmkaaGreat
