/- WalCuts, walked: it returns true. -/
import Derived.Test.YtipbfmalacnmkaaGreatKeepsW
namespace Go.Proofs.YtipbfmalacnmkaaGreat
open Go.RowKit Go.Shelf

theorem setFuse_zero {k : Dk} (ho : k.off = false) {n : Int} (hn : 0 ≤ n) : (k.setFuse n).1 = 0 := by
  unfold Dk.setFuse
  rw [ho, if_neg (by simp), if_neg (by omega)]
/-- Setting the fuse where the disk goes. -/
def FuseX (B : Nat) (w : World) (x : Nat) (s p : Sv) (sm : Bool) (e : Ending) (w' : World) : Prop := e = .returned (.int .i64 0) ∧ Below B w w' ∧ ∃ k, XReady B w' x k s p sm
theorem ready_fuse {B x : Nat} {w : World} {k : Dk} {s p : Sv} {sm : Bool} (h : XReady B w x k s p sm) (n : Int) (h0 : 0 ≤ n) (h1 : n ≤ 9223372036854775807) : ∃ d, w.cell? ⟨x, 0, none⟩ = some (.pointer (some ⟨d, 0, none⟩)) ∧ Calls Tryz.prog 18 #[.pointer (some ⟨d, 0, none⟩), .int .i64 n] w fun e w' => FuseX B w x s p sm e w' := by
  obtain ⟨d, m, wv, sv, pv, xb, hwv, hoff, hlast, hok⟩ := h
  refine ⟨d, xb.row.facts.c0, (Fuse_calls xb.disk n).mono ?_⟩
  rintro e w' ⟨he, d2, x2'⟩
  have x2 : Ext [d, m] w w' := x2'.mono (by simp; omega)
  have hg : (k.setFuse n).2.get .wal = k.get .wal := Dk.get_of_eq (by rw [(setFuse_fs k n).1])
  rw [setFuse_zero hoff h0] at he
  exact ⟨he, xb.below x2, _, d, m, wv, sv, pv, xb.disk' x2 d2 (xb.base.setFuse n (by omega) h1), hwv, (setFuse_fs k n).2.trans hoff, by rw [hg]; exact hlast, by rw [hg]; exact hok⟩
def FuseOn (B : Nat) (w : World) (x : Nat) (s : Sv) (e : Ending) (w' : World) : Prop := e = .returned (.int .i64 0) ∧ Below B w w' ∧ ∃ k, XOn B w' x k s
theorem on_fuse {B x : Nat} {w : World} {k : Dk} {s : Sv} (h : XOn B w x k s) (n : Int) (h0 : 0 ≤ n) (h1 : n ≤ 9223372036854775807) : ∃ d, w.cell? ⟨x, 0, none⟩ = some (.pointer (some ⟨d, 0, none⟩)) ∧ Calls Tryz.prog 18 #[.pointer (some ⟨d, 0, none⟩), .int .i64 n] w fun e w' => FuseOn B w x s e w' := by
  obtain ⟨d, m, g, sv, p, pv, lv, hw⟩ := h
  refine ⟨d, hw.xb.row.facts.c0, (Fuse_calls hw.xb.disk n).mono ?_⟩
  rintro e w' ⟨he, d2, x2'⟩
  have x2 : Ext [d, m] w w' := x2'.mono (by simp; omega)
  rw [setFuse_zero hw.on.on h0] at he
  exact ⟨he, hw.xb.below x2, _, d, m, g, sv, p, pv, lv, hw.disk' x2 d2 (hw.on.setFuse n (by omega) h1) (Dk.get_of_eq (by rw [(setFuse_fs k n).1]))⟩

/-- What a deed that is kept needs: the cells of what is told, next, and the keeping of what next makes. -/
theorem next_keep {B x N : Nat} {w : World} (hst : XState B w x N) {W : World} (hx : Ext [] w W) (dn term : Int) (data : ByteArray) (n : Int) (kv : Value) (hkv : ∃ a l c, kv = .slice a l c) (hN : N ≤ 4000) (hdata : data.size ≤ 3000) :
    ∃ T V v, W.cell? ⟨x, 2, none⟩ = some (.int .i64 T) ∧ W.cell? ⟨x, 3, none⟩ = some (.int .i64 V) ∧ W.cell? ⟨x, 4, none⟩ = some v ∧ (∃ a l c, v = .slice a l c) ∧
      Calls Tryz.prog 24 #[.agg #[.int .i64 T, .int .i64 V, v], .agg #[.int .u8 dn, .int .i64 term, .string data, .int .i64 n, kv]] W.drew fun e w2 => ∃ T' V' v', e = .returned (.agg #[.int .i64 T', .int .i64 V', v']) ∧ (∃ a l c, v' = .slice a l c) ∧ Below W.heap.size W.drew w2 ∧
        Calls Tryz.prog 8 #[.pointer (some ⟨x, 0, none⟩), .agg #[.int .i64 T', .int .i64 V', v']] w2 fun e w' => DoPost B w2 x (N + 40) e w' := by
  have hst := hst.nil hx
  obtain ⟨d, m, k, wv, s, sv, p, pv, sm, xb, hsN, hor⟩ := hst.split
  obtain ⟨asv, csv, hsv, _, _⟩ := xb.rs.shape
  have XD0 : Ext [] W W.drew := (Ext.refl [] W).drew
  have hnx := Next_calls s sv dn term n data kv N W.drew (RdE.ext xb.rs XD0) xb.ms hsN hN hdata hkv
  refine ⟨_, _, _, xb.row.facts.c2, xb.row.facts.c3, xb.row.facts.c4, ⟨_, _, _, hsv⟩, hnx.mono ?_⟩
  rintro e w2 ⟨t, v, he, hv, hm, hl, hb2⟩
  obtain ⟨a, c, hv', _, _⟩ := hv.shape
  have x2 : Ext [] W w2 := XD0.trans (Ext.of_below hb2)
  refine ⟨_, _, _, he, ⟨_, _, _, hv'⟩, hb2, ?_⟩
  rcases hor with ⟨g, lv, rfl, rfl, hw⟩ | ⟨rfl, hof, hho, hpl⟩
  · refine (wkeep_on (⟨d, m, g, _, p, pv, lv, hw.nil x2⟩ : XOn B w2 x k s) v hv hm).mono ?_
    rintro e w' ⟨he, hb, hc⟩
    refine ⟨he, hb, ?_⟩
    rcases hc with ⟨k', h1, _⟩ | ⟨h1, _⟩
    · exact .inl ⟨k', t, h1, hl⟩
    · exact .inr ⟨s, t, true, h1, by omega, fun _ => hl⟩
  · refine (wkeep_off (⟨d, m, k, _, pv, xb.nil x2, hof, hho⟩ : XOff B w2 x s p sm) t.term t.vote v ⟨a, _, c, hv'⟩).mono ?_
    rintro e w' ⟨he, hx2⟩
    exact ⟨he, hx2.below (by have := xb.row.lt; have := x2.size; have := xb.bx; omega) (by simp), .inr ⟨s, p, sm, ⟨d, m, k, _, pv, (xb.nil x2).nil hx2, hof, hho⟩, by omega, fun hs => by have := hpl hs; omega⟩⟩

set_option maxRecDepth 10000 in
set_option maxHeartbeats 2000000 in
theorem cuts_walk {w : World} {v kv : Value} {l : List Dd} {ks : List Int} {f1 f2 : Int} (hl : RdD w.heap.size w v l) (hk : RdI w.heap.size w kv ks) (hf1 : f1 ≤ 9223372036854775807) (hf2 : f2 ≤ 9223372036854775807) :
    Calls Tryz.prog 6 #[v, .int .i64 f1, .int .i64 f2, kv] w fun e w' => e = .returned (.bool true) ∧ Below w.heap.size w w' := by
  obtain ⟨al, cl, rfl, hlm, _⟩ := id hl
  have hlen : l.length ≤ 9223372036854775807 := by unfold maxLen at hlm; omega
  have HL := Lib.hid hl
  have HK := Lib.hid hk
  clear hl hk
  go_enter Tryz.func6, Tryz.ntmps6
  go_wp2_with fail
  refine (awake_calls w).mono ?_
  rintro e w1 ⟨rfl, b1⟩
  go_wp2_with fail
  refine (long_calls (HL.out.below b1)).mono ?_
  rintro e w1' ⟨bl, rfl, rfl, hbl⟩
  by_cases hc : bl = false ∧ l.length ≤ 6 ∧ 0 ≤ f1 ∧ 0 ≤ f2
  · obtain ⟨rfl, h6, hp1, hp2⟩ := hc
    have HSH := Lib.hid (hbl rfl)
    clear hbl
    go_wp2_with fail
    refine (begin_calls w1).mono ?_
    rintro e w2 ⟨x, k, rfl, hon, _, b2⟩
    have hs1 := b1.size
    have hD : RdD w1.heap.size w2 (.slice al l.length cl) l := ((HL.out.below b1).mono hs1).below b2
    have hK : RdI w1.heap.size w2 kv ks := ((HK.out.below b1).mono hs1).below b2
    have HD := Lib.hid hD
    have HKD := Lib.hid hK
    obtain ⟨d, c0, hfu⟩ := on_fuse hon f1 hp1 hf1
    have HFU := Lib.hid hfu
    clear hD hK hon hfu
    go_wp2_with fail
    refine HFU.out.mono ?_
    rintro e w3 ⟨rfl, b3, k3, hon⟩
    have hst : XState w1.heap.size w3 x (40 * 0) := .inl ⟨k3, Sv.zero, hon, by simp [Sv.zero]⟩
    have HST := Lib.hid hst
    clear hst hon c0
    go_wp2_with fail
    go_loopw [11] (fun s5 wr => ∃ i : Nat, i ≤ l.length ∧ s5 = .int .i64 i ∧ Hid (XState w1.heap.size wr x (40 * i) ∧ Below w1.heap.size w3 wr)) (fun s5 _ => (l.length - intOf s5).toNat)
    case atStart => exact ⟨0, by omega, rfl, Lib.hid ⟨HST.out, Below.refl _ _⟩⟩
    case round =>
      obtain ⟨i, hi, rfl, hh⟩ := hrel
      obtain ⟨wo, rfl⟩ : ∃ wo : World, wo = wr := ⟨_, rfl⟩
      by_cases hi2 : i < l.length
      · obtain ⟨_, _, hv, _, hok, hc⟩ := HD.out.below (b3.trans hh.out.2)
        cases hv
        obtain ⟨b, off, rfl, _, _, hc2⟩ := hc (by omega)
        obtain ⟨c0, c1, c2, c3, c4⟩ := hc2 i _ (List.getElem?_eq_getElem hi2)
        have hok2 := hok _ (List.getElem_mem hi2)
        have hd3 := HSH.out.2 _ (List.getElem_mem hi2)
        clear hc hc2 hok
        generalize l[i] = y at c0 c1 c2 c3 c4 hok2 hd3
        obtain ⟨dn, term, data, n, kv0, ks0⟩ := y
        obtain ⟨hd0, hd1, hn0, hn1, _, hkeep⟩ := hok2
        obtain ⟨a0, cc0, hkv0, _, _⟩ := id hkeep
        simp only at c0 c1 c2 c3 c4 hd0 hd1 hn0 hn1 hkv0 hd3
        have hi0 : (0 : Int) ≤ (i : Int) := by omega
        have hi1 : (i : Int) < (l.length : Int) := by omega
        clear hkeep
        go_upto_region 12 with fail
        obtain ⟨W1, hW1⟩ : ∃ W1, W1 = wo.alloc (.cells #[.int .u8 dn, .int .i64 term, .string data, .int .i64 n, .slice a0 ks0.length cc0] 56) := ⟨_, rfl⟩
        have X1 : Ext [] wo W1 := by rw [hW1]; exact (Ext.refl [] wo).alloc _
        have r1 : W1.heap[wo.heap.size]? = some (.cells #[.int .u8 dn, .int .i64 term, .string data, .int .i64 n, .slice a0 ks0.length cc0] 56 (0, 0)) := by rw [hW1]; exact heap_alloc_new wo _
        rw [← hW1]
        clear hW1 c0 c1 c2 c3 c4
        obtain ⟨b0, b1', b2', b3', b4'⟩ := row56 r1
        have fz0 := frozen_of_row W1 wo.heap.size 0 _ _ r1
        have hst := hh.out.1
        have HB := Lib.hid hh.out.2
        have hsz : w1.heap.size ≤ wo.heap.size := ((b2.trans b3).trans hh.out.2).size
        by_cases hdn : 2 < dn ∧ dn < 6
        · obtain ⟨g2, g6⟩ := hdn
          obtain ⟨W2, hW2⟩ : ∃ W2, W2 = W1.setCell ⟨wo.heap.size, 0, none⟩ (.int .u8 0) := ⟨_, rfl⟩
          have X2 : Ext [] wo W2 := by rw [hW2]; exact X1.setCell (.inr (Nat.le_refl _)) _
          have r2 : W2.heap[wo.heap.size]? = some (.cells #[.int .u8 0, .int .i64 term, .string data, .int .i64 n, .slice a0 ks0.length cc0] 56 (0, 0)) := by rw [hW2]; exact heap_set (o := 0) _ r1
          go_upto_region 14 with fail
          rw [← hW2]
          clear hW2 b0 b1' b2' b3' b4' fz0 r1
          obtain ⟨k0, k1, k2, k3, k4⟩ := row56 r2
          obtain ⟨T, V, v, j2, j3, j4, ⟨av, lv, cv, rfl⟩, hnx⟩ := next_keep hst X2 0 term data n (.slice a0 ks0.length cc0) ⟨_, _, _, rfl⟩ (show 40 * i ≤ 4000 by omega) (by omega)
          have HNX := Lib.hid hnx
          have HX := Lib.hid X2
          clear hnx hst hh X1 X2 r2
          go_region_with
            (first
              | (go_at_call 24; refine HNX.out.mono ?_; rintro e w4 ⟨T', V', v', rfl, ⟨av', lv', cv', rfl⟩, hb4, hkp⟩; have HB4 := Lib.hid hb4; have HKP := Lib.hid hkp; clear hb4 hkp)
              | (go_at_call 8; refine HKP.out.mono ?_; rintro e w5 ⟨rfl, hb5, hs5⟩))
          all_goals
            go_wp2_with fail
            go_roundw
            case rel =>
              refine ⟨i + 1, by omega, by go_num, Lib.hid ⟨hs5.mono (by omega), ?_⟩⟩
              exact (HB.out.trans ((HX.out.trans ((Ext.refl [] W2).drew.trans (Ext.of_below HB4.out))).below hsz (by simp))).trans hb5
            case measure => simp [intOf]; omega
        · have X2 := X1
          have r2 := r1
          rcases (show dn ≤ 2 ∨ 6 ≤ dn by omega) with g2 | g6
          all_goals
            go_upto_region 14 with fail
            obtain ⟨k0, k1, k2, k3, k4⟩ := row56 r2
            obtain ⟨T, V, v, j2, j3, j4, ⟨av, lv, cv, rfl⟩, hnx⟩ := next_keep hst X2 dn term data n (.slice a0 ks0.length cc0) ⟨_, _, _, rfl⟩ (show 40 * i ≤ 4000 by omega) (by omega)
            have HNX := Lib.hid hnx
            have HX := Lib.hid X2
            clear hnx hst hh X1 X2 r2
            go_region_with
              (first
                | (go_at_call 24; refine HNX.out.mono ?_; rintro e w4 ⟨T', V', v', rfl, ⟨av', lv', cv', rfl⟩, hb4, hkp⟩; have HB4 := Lib.hid hb4; have HKP := Lib.hid hkp; clear hb4 hkp)
                | (go_at_call 8; refine HKP.out.mono ?_; rintro e w5 ⟨rfl, hb5, hs5⟩))
            all_goals
              go_wp2_with fail
              go_roundw
              case rel =>
                refine ⟨i + 1, by omega, by go_num, Lib.hid ⟨hs5.mono (by omega), ?_⟩⟩
                exact (HB.out.trans ((HX.out.trans ((Ext.refl [] W1).drew.trans (Ext.of_below HB4.out))).below hsz (by simp))).trans hb5
              case measure => simp [intOf]; omega
      · obtain rfl : i = l.length := by omega
        have hst := hh.out.1
        obtain ⟨d, c0, hcr⟩ := crash_state hst kv ks (HKD.out.below (b3.trans hh.out.2))
        have HCR := Lib.hid hcr
        clear hcr hst
        go_wp2_with fail
        refine HCR.out.mono ?_
        rintro e w4 ⟨rfl, b4, k4, s4, p4, sm4, hrd, hf4⟩
        obtain ⟨d5, c5, hfu⟩ := ready_fuse hrd f2 hp2 hf2
        have HFU := Lib.hid hfu
        clear hrd c0 hf4 hfu
        go_wp2_with fail
        refine HFU.out.mono ?_
        rintro e w5 ⟨rfl, b5, k5, hrd⟩
        have HOP := Lib.hid (wopen_state (N := s4.log.length + p4.log.length) hrd (by omega) (fun _ => by omega))
        clear hrd c5
        go_wp2_with fail
        refine HOP.out.mono ?_
        rintro e w6 ⟨rfl, b6, hs6⟩
        have B36 := (((hh.out.2.trans b4).trans b5).trans b6)
        obtain ⟨d6, c6, hcr⟩ := crash_state hs6 kv ks (HKD.out.below (b3.trans B36))
        have HCR := Lib.hid hcr
        have HB36 := Lib.hid B36
        clear hcr hs6 B36
        go_wp2_with fail
        refine HCR.out.mono ?_
        rintro e w7 ⟨rfl, b7, k7, s7, p7, sm7, hrd, hf7⟩
        have HOP := Lib.hid (open_calm hrd hf7)
        clear hrd c6 hf7
        go_wp2_with fail
        refine HOP.out.mono ?_
        rintro e w8 ⟨rfl, b8, k8, s8, hon8, hf8⟩
        obtain ⟨g8, c8⟩ := hon8.cellW
        have HOP2 := Lib.hid (hon8.open2 hf8)
        clear hon8 hf8
        go_wp2_with fail
        refine HOP2.out.mono ?_
        rintro e w9 ⟨rfl, b9, k9, s9, hon9, _⟩
        obtain ⟨g9, c9⟩ := hon9.cellW
        go_wp2_with fail
        go_ret
        exact ⟨rfl, b1.trans ((((b2.trans b3).trans HB36.out).trans ((b7.trans b8).trans b9)).mono hs1)⟩
  · cases bl
    · have h3 : 6 < l.length ∨ (l.length ≤ 6 ∧ f1 < 0) ∨ (l.length ≤ 6 ∧ 0 ≤ f1 ∧ f2 < 0) := by
        simp only [true_and] at hc
        omega
      clear hc hbl
      rcases h3 with q1 | ⟨q1, q2⟩ | ⟨q1, q2, q3⟩
      all_goals
        go_wp2_with fail
        go_ret
        exact ⟨rfl, b1⟩
    · clear hc hbl
      go_wp2_with fail
      go_ret
      exact ⟨rfl, b1⟩
end Go.Proofs.YtipbfmalacnmkaaGreat
