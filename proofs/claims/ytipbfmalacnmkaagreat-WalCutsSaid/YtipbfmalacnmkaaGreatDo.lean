/- What a deed does to the world. -/
import Derived.Test.YtipbfmalacnmkaaGreatWkeep
import Derived.Test.YtipbfmalacnmkaaGreatDeeds
import Derived.Test.YtipbfmalacnmkaaGreatNext
namespace Go.Proofs.YtipbfmalacnmkaaGreat
open Go.RowKit Go.Shelf

/-- The world is one of the two, and what may be told has at most N entries. -/
def XState (B : Nat) (w : World) (x N : Nat) : Prop :=
  (∃ k s, XOn B w x k s ∧ s.log.length ≤ N) ∨ (∃ s p sm, XOff B w x s p sm ∧ s.log.length ≤ N ∧ (sm = true → p.log.length ≤ N))
theorem XState.mono {B x N N' : Nat} {w : World} (h : XState B w x N) (hN : N ≤ N') : XState B w x N' := by
  rcases h with ⟨k, s, h, h1⟩ | ⟨s, p, sm, h, h1, h2⟩
  · exact .inl ⟨k, s, h, by omega⟩
  · exact .inr ⟨s, p, sm, h, by omega, fun hs => by have := h2 hs; omega⟩
theorem XState.nil {B x N : Nat} {w w' : World} (h : XState B w x N) (hx : Ext [] w w') : XState B w' x N := by
  rcases h with ⟨k, s, h, h1⟩ | ⟨s, p, sm, h, h1, h2⟩
  · exact .inl ⟨k, s, h.nil hx, h1⟩
  · exact .inr ⟨s, p, sm, h.nil hx, h1, h2⟩
def DoPost (B : Nat) (w : World) (x N : Nat) (e : Ending) (w' : World) : Prop := e = .returned (.bool true) ∧ Below B w w' ∧ XState B w' x N
theorem Told.len {s p t : Sv} {sm : Bool} {N : Nat} (h : Told s p sm t) (h1 : s.log.length ≤ N) (h2 : sm = true → p.log.length ≤ N) : t.log.length ≤ N := by
  rcases h with rfl | ⟨hs, rfl⟩
  · exact h1
  · exact h2 hs
/-- Where nothing is told perhaps, something of no length serves. -/
theorem XReady.zero {B x : Nat} {w : World} {k : Dk} {s p : Sv} (h : XReady B w x k s p false) : Calls Tryz.prog 9 #[.pointer (some ⟨x, 0, none⟩)] w fun e w' => WOpen B w x k s p false e w' := wopen_calls h
theorem wopen_state {B x N : Nat} {w : World} {k : Dk} {s p : Sv} {sm : Bool} (h : XReady B w x k s p sm) (h1 : s.log.length ≤ N) (h2 : sm = true → p.log.length ≤ N) : Calls Tryz.prog 9 #[.pointer (some ⟨x, 0, none⟩)] w fun e w' => DoPost B w x N e w' :=
  (wopen_calls h).mono fun e w' ⟨he, hb, hc⟩ => ⟨he, hb, by
    rcases hc with ⟨k', s', h3, h4, _⟩ | ⟨h3, _⟩
    · exact .inl ⟨k', s', h3, h4.len h1 h2⟩
    · exact .inr ⟨s, p, sm, h3, h1, h2⟩⟩
/-- An opening where nothing is told perhaps: what p is does not count. -/
theorem wopen_on {B x N : Nat} {w : World} {k : Dk} {s : Sv} (h : XOn B w x k s) (h1 : s.log.length ≤ N) : Calls Tryz.prog 9 #[.pointer (some ⟨x, 0, none⟩)] w fun e w' => e = .returned (.bool true) ∧ Below B w w' ∧ ((∃ k', XOn B w' x k' s ∧ (k.fuse = -1 → k'.fuse = -1)) ∨ ((∃ p, XOff B w' x s p false) ∧ k.fuse ≠ -1)) := by
  obtain ⟨p, hr⟩ := h.ready
  refine (wopen_calls hr).mono fun e w' ⟨he, hb, hc⟩ => ⟨he, hb, ?_⟩
  rcases hc with ⟨k', s', h3, h4, h5⟩ | ⟨h3, h4⟩
  · rcases h4 with rfl | ⟨h6, _⟩
    · exact .inl ⟨k', h3, h5⟩
    · cases h6
  · exact .inr ⟨⟨p, h3⟩, h4⟩
/-- Where nothing is told perhaps any p serves. -/
theorem XOff.any {B x : Nat} {w : World} {s p : Sv} (h : XOff B w x s p false) : ∃ p', XOff B w x s p' false ∧ p'.log.length = p.log.length := ⟨p, h, rfl⟩
/-- The disk under the world: its fuse is set. -/
theorem Base.setFuse {k : Dk} (h : Base k) (n : Int) (h0 : -9223372036854775808 ≤ n) (h1 : n ≤ 9223372036854775807) : Base (k.setFuse n).2 := by
  unfold Dk.setFuse
  split
  · exact h
  · split
    · exact h
    · rename_i hn
      exact ⟨by unfold Dk.fuseOk; simp only; omega, h.oth, h.wl, h.ws, h.nl, h.ns⟩
theorem setFuse_fs (k : Dk) (n : Int) : (k.setFuse n).2.fs = k.fs ∧ (k.setFuse n).2.off = k.off := by
  unfold Dk.setFuse
  split
  · exact ⟨rfl, rfl⟩
  · split <;> exact ⟨rfl, rfl⟩
theorem Holds.of_fs {k k' : Dk} {S : Sv → Prop} (h : Holds k S) (hf : k'.fs = k.fs) : Holds k' S := h.of_get (Dk.get_of_eq (by rw [hf]))
theorem On.setFuse {k : Dk} {s : Sv} (h : On k s) (n : Int) (h0 : -9223372036854775808 ≤ n) (h1 : n ≤ 9223372036854775807) : On (k.setFuse n).2 s := by
  obtain ⟨hf, ho⟩ := setFuse_fs k n
  have hg : (k.setFuse n).2.get .wal = k.get .wal := Dk.get_of_eq (by rw [hf])
  exact ⟨ho.trans h.on, h.base.setFuse n h0 h1, by rw [hf]; exact h.new, by rw [hg]; exact h.last, by rw [hg]; exact h.good⟩
/-- The one or the other state, with what both share. -/
theorem XState.split {B x N : Nat} {w : World} (h : XState B w x N) : ∃ d m k wv s sv p pv sm, XBase B w x d m k wv s sv p pv sm ∧ s.log.length ≤ N ∧
    ((∃ g lv, wv = .pointer (some ⟨g, 0, none⟩) ∧ sm = false ∧ XWal B w x d m g k s sv p pv lv false) ∨ (wv = .pointer none ∧ k.off = true ∧ Holds k (Told s p sm) ∧ (sm = true → p.log.length ≤ N))) := by
  rcases h with ⟨k, s, ⟨d, m, g, sv, p, pv, lv, h⟩, h1⟩ | ⟨s, p, sm, ⟨d, m, k, sv, pv, h, h3, h4⟩, h1, h2⟩
  · exact ⟨d, m, k, _, s, sv, p, pv, _, h.xb, h1, .inl ⟨g, lv, rfl, rfl, h⟩⟩
  · exact ⟨d, m, k, _, s, sv, p, pv, _, h, h1, .inr ⟨rfl, h3, h4, h2⟩⟩
/-- The state where only the disk has turned, to k'. -/
theorem XBase.disk' {B x d m : Nat} {w w' : World} {k k' : Dk} {wv sv pv : Value} {s p : Sv} {sm : Bool} (h : XBase B w x d m k wv s sv p pv sm) (hx : Ext [d, m] w w') (hd : DiskAt w' d m k') (hb : Base k') : XBase B w' x d m k' wv s sv p pv sm :=
  ⟨h.row.ext hx (by simp only [List.mem_cons, List.not_mem_nil, or_false, not_or]; exact h.row.ne_disk h.disk), hd, hb, h.bx, h.bd, h.bm, RdE.mono (RdE.diskTurned h.rs hx h.disk) hx.size, RdE.mono (RdE.diskTurned h.rp hx h.disk) hx.size, h.ms⟩
theorem XWal.disk' {B x d m g : Nat} {w w' : World} {k k' : Dk} {sv pv lv : Value} {s p : Sv} {sm : Bool} (h : XWal B w x d m g k s sv p pv lv sm) (hx : Ext [d, m] w w') (hd : DiskAt w' d m k') (hon : On k' s) (hg : (k'.get .wal) = (k.get .wal)) : XWal B w' x d m g k' s sv p pv lv sm :=
  ⟨h.xb.disk' hx hd hon.base, hon, h.bg, by
    rw [hg]
    exact h.wal.ext hx (by have := h.wal.ne h.xb.disk; simp only [List.mem_cons, List.not_mem_nil, or_false, not_or]; exact this), RdE.mono (RdE.diskTurned h.rl hx h.xb.disk) hx.size⟩
theorem XBase.below {B x d m : Nat} {w w' : World} {k : Dk} {wv sv pv : Value} {s p : Sv} {sm : Bool} (h : XBase B w x d m k wv s sv p pv sm) (hx : Ext [d, m] w w') : Below B w w' :=
  hx.below (by have := h.bx; have := h.row.lt; omega) (by simp; exact ⟨h.bd, h.bm⟩)
theorem XOff.crash {B x d m : Nat} {w w' : World} {k k' : Dk} {wv sv pv : Value} {s p : Sv} {sm : Bool} (h : XBase B w x d m k wv s sv p pv sm) (hwv : wv = .pointer none ∨ ∃ g, wv = .pointer (some ⟨g, 0, none⟩)) (hH : Holds k (Told s p sm)) (hc : Crashed k k') (hd : DiskAt w' d m k') (hx : Ext [d, m] w w') : XReady B w' x k' s p sm := by
  obtain ⟨h1, h2, h3, h4⟩ := crash_cases h.base hH hc
  exact ⟨d, m, wv, sv, pv, h.disk' hx hd h1, hwv, h2, h3, h4⟩
theorem Base.crashable {k : Dk} (h : Base k) : ∀ x f, k.fs x = some f → f.last ≤ f.b.length ∧ f.b.length ≤ 1099511627776 := by
  intro x f hf
  have h1 := h.wl
  have h2 := h.ws
  have h3 := h.nl
  have h4 := h.ns
  cases x
  · rw [h.oth] at hf
    cases hf
    decide
  · rw [Dk.get_some hf] at h1 h2
    exact ⟨h1, by omega⟩
  · rw [Dk.get_some hf] at h3 h4
    exact ⟨h3, by omega⟩

set_option maxRecDepth 10000 in
set_option maxHeartbeats 4000000 in
theorem do_calls {B x N : Nat} {w : World} (hst : XState B w x N) (y : Dd) (hy : y.Ok B w) (hN : N ≤ 4000) (hdata : y.data.size ≤ 3000) :
    Calls Tryz.prog 22 #[.pointer (some ⟨x, 0, none⟩), .agg #[.int .u8 y.dn, .int .i64 y.term, .string y.data, .int .i64 y.n, y.kv]] w fun e w' => DoPost B w x (N + 40) e w' := by
  obtain ⟨dn, term, data, n, kv, ks⟩ := y
  obtain ⟨hd0, hd1, hn0, hn1, _, hkeep⟩ := hy
  simp only at hd0 hd1 hn0 hn1 hkeep hdata ⊢
  obtain ⟨ak, ck, rfl, _, _⟩ := id hkeep
  obtain ⟨d, m, k, wv, s, sv, p, pv, sm, xb, hsN, hor⟩ := hst.split
  obtain ⟨asv, csv, rfl, _, _⟩ := xb.rs.shape
  obtain ⟨W1, hW1⟩ : ∃ W1, W1 = w.alloc (.cells #[.int .u8 dn, .int .i64 term, .string data, .int .i64 n, .slice ak ks.length ck] 56) := ⟨_, rfl⟩
  have X1 : Ext [] w W1 := by rw [hW1]; exact (Ext.refl [] w).alloc _
  have r1 : W1.heap[w.heap.size]? = some (.cells #[.int .u8 dn, .int .i64 term, .string data, .int .i64 n, .slice ak ks.length ck] 56 (0, 0)) := by rw [hW1]; exact heap_alloc_new w _
  have xb1 := xb.nil X1
  have lx := xb.row.lt
  have hxw : x ≠ w.heap.size := by omega
  have hk1 : RdI B W1 (.slice ak ks.length ck) ks := hkeep.ext X1 (by simp)
  have hbx := xb.bx
  have hB1 : Below B w W1 := X1.below (by omega) (by simp)
  have hld := xb.disk.lt
  have hlm := xb.disk.ltm
  have hzn : w.heap.size ∉ [d, m] := by simp; omega
  have hxn : x ∉ [d, m] := by simp only [List.mem_cons, List.not_mem_nil, or_false, not_or]; exact xb.row.ne_disk xb.disk
  have hfac : ∀ W, Ext [d, m] W1 W → W.cell? ⟨x, 0, none⟩ = some (.pointer (some ⟨d, 0, none⟩)) ∧ W.cell? ⟨x, 2, none⟩ = some (.int .i64 s.term) ∧ W.cell? ⟨x, 3, none⟩ = some (.int .i64 s.vote) ∧ W.cell? ⟨x, 4, none⟩ = some (.slice asv s.log.length csv) ∧
      W.cell? ⟨w.heap.size, 0, none⟩ = some (.int .u8 dn) ∧ W.cell? ⟨w.heap.size, 1, none⟩ = some (.int .i64 term) ∧ W.cell? ⟨w.heap.size, 2, none⟩ = some (.string data) ∧ W.cell? ⟨w.heap.size, 3, none⟩ = some (.int .i64 n) ∧ W.cell? ⟨w.heap.size, 4, none⟩ = some (.slice ak ks.length ck) := fun W hx => by
    have fx := (xb1.row.ext hx hxn).facts
    obtain ⟨b0, b1, b2, b3, b4⟩ := row56 ((hx.block _ (Array.getElem?_eq_some_iff.1 r1).1 hzn).trans r1)
    exact ⟨fx.c0, fx.c2, fx.c3, fx.c4, b0, b1, b2, b3, b4⟩
  have HFAC := Lib.hid hfac
  have XD : Ext [d, m] W1 W1.drew := (Ext.refl [d, m] W1).drew
  have XD0 : Ext [] W1 W1.drew := (Ext.refl [] W1).drew
  obtain ⟨c0, _, _, _, b0, b1, b2, b3, b4⟩ := hfac W1 (Ext.refl _ _)
  clear hfac
  have HB1 := Lib.hid hB1
  have HOR := Lib.hid hor
  clear hor hB1
  by_cases h3 : dn = 3
  · subst h3
    have hfu := Fuse_calls (xb1.disk.nil XD0) n
    have HFU := Lib.hid hfu
    clear hfu
    go_enter Tryz.func22, Tryz.ntmps22
    go_upto_region 3 with fail
    rw [← hW1]
    clear hW1
    go_region_held3 (fun w' => w'.cell? ⟨x, 0, none⟩ = some (.pointer (some ⟨d, 0, none⟩)) ∧ w'.cell? ⟨w.heap.size, 3, none⟩ = some (.int .i64 n))
      (first | exact ⟨(HFAC.out _ (Ext.refl _ W1)).1, (HFAC.out _ (Ext.refl _ W1)).2.2.2.2.2.2.2.1⟩ | exact ⟨(HFAC.out _ XD).1, (HFAC.out _ XD).2.2.2.2.2.2.2.1⟩ | exact ⟨(HFAC.out _ x2).1, (HFAC.out _ x2).2.2.2.2.2.2.2.1⟩)
      (first | (go_at_call 18; refine HFU.out.mono ?_; rintro e w2 ⟨rfl, d2, x2'⟩; have x2 : Ext [d, m] W1 w2 := XD.trans (x2'.mono (by simp; omega))))
    all_goals
      go_wp2_with fail
      go_ret
      refine ⟨rfl, HB1.out.trans (xb1.below x2), ?_⟩
      rcases HOR.out with ⟨g, lv, rfl, rfl, hw⟩ | ⟨rfl, hof, hho, hpl⟩
      · exact .inl ⟨_, _, ⟨_, _, _, _, _, _, _, (hw.nil X1).disk' x2 d2 (hw.on.setFuse n hn0 hn1) (Dk.get_of_eq (by rw [(setFuse_fs k n).1]))⟩, by omega⟩
      · exact .inr ⟨_, _, _, ⟨_, _, _, _, _, xb1.disk' x2 d2 (xb.base.setFuse n hn0 hn1), (setFuse_fs k n).2.trans hof, hho.of_fs (setFuse_fs k n).1⟩, by omega, fun hs => by have := hpl hs; omega⟩
  by_cases h4 : dn = 4
  · subst h4
    have hcr := Crash_calls (B := B) (xb1.disk.nil XD0) (.slice ak ks.length ck) ks (hk1.ext XD0 (by simp)) xb.bm xb.base.crashable
    have HCR := Lib.hid hcr
    clear hcr
    go_enter Tryz.func22, Tryz.ntmps22
    go_upto_region 6 with fail
    rw [← hW1]
    clear hW1
    go_cut [28] (fun s28 wc => s28 = .bool false ∧ ∃ k', Hid (Crashed k k' ∧ DiskAt wc d m k' ∧ Ext [d, m] W1 wc))
    case first =>
      go_region_held3 (fun w' => w'.cell? ⟨x, 0, none⟩ = some (.pointer (some ⟨d, 0, none⟩)) ∧ w'.cell? ⟨w.heap.size, 4, none⟩ = some (.slice ak ks.length ck))
        (first | exact ⟨(HFAC.out _ (Ext.refl _ W1)).1, (HFAC.out _ (Ext.refl _ W1)).2.2.2.2.2.2.2.2⟩ | exact ⟨(HFAC.out _ XD).1, (HFAC.out _ XD).2.2.2.2.2.2.2.2⟩ | exact ⟨(HFAC.out _ x2).1, (HFAC.out _ x2).2.2.2.2.2.2.2.2⟩)
        (first | (go_at_call 23; refine HCR.out.mono ?_; rintro e w2 ⟨rfl, k', hck, d2, x2'⟩; have x2 : Ext [d, m] W1 w2 := XD.trans x2'))
      all_goals
        go_wp2_with fail
        go_meet
        exact ⟨rfl, k', Lib.hid ⟨hck, d2, x2⟩⟩
    case rest =>
      obtain ⟨w2, rfl⟩ : ∃ w2 : World, w2 = wc := ⟨_, rfl⟩
      obtain ⟨rfl, k', hh⟩ := hcut
      obtain ⟨hck, d2, x2⟩ := hh.out
      have hop : Calls Tryz.prog 9 #[.pointer (some ⟨x, 0, none⟩)] w2 fun e w' => DoPost B w2 x (N + 40) e w' := by
        rcases HOR.out with ⟨g, lv, rfl, rfl, hw⟩ | ⟨rfl, hof, hho, hpl⟩
        · exact (wopen_state (XOff.crash xb1 (.inr ⟨g, rfl⟩) (hw.on.holds.mono (fun t ht => .inl ht)) hck d2 x2) (by omega) (fun hs => by cases hs))
        · exact wopen_state (XOff.crash xb1 (.inl rfl) hho hck d2 x2) (by omega) (fun hs => by have := hpl hs; omega)
      have HOP := Lib.hid hop
      have HB2 := Lib.hid (xb1.below x2)
      clear hop hh hck
      go_wp2_with (go_at_call 9; refine HOP.out.mono ?_; rintro e w3 ⟨rfl, hb3, hs3⟩)
      go_ret
      exact ⟨rfl, (HB1.out.trans HB2.out).trans hb3, hs3⟩
  by_cases h5 : dn = 5
  · subst h5
    rcases HOR.out with ⟨g, lv, rfl, rfl, hw⟩ | ⟨rfl, hof, hho, hpl⟩
    · have hofc := Off_calls xb1.disk
      rw [hw.on.on] at hofc
      have HOF := Lib.hid hofc
      obtain ⟨p', hrd⟩ := XOn.ready (⟨d, m, g, _, p, pv, lv, hw.nil X1⟩ : XOn B W1 x k s)
      have hop := wopen_state hrd (show s.log.length ≤ N + 40 by omega) (fun hs => by cases hs)
      have HOP := Lib.hid hop
      clear hofc hop hrd
      go_enter Tryz.func22, Tryz.ntmps22
      go_upto_region 10 with fail
      rw [← hW1]
      clear hW1
      go_wp2_with (first
        | (go_at_call 27; refine HOF.out.mono ?_; rintro e w' ⟨rfl, rfl⟩)
        | (go_at_call 9; refine HOP.out.mono ?_; rintro e w3 ⟨rfl, hb3, hs3⟩))
      go_ret
      exact ⟨rfl, HB1.out.trans hb3, hs3⟩
    · have hofc := Off_calls xb1.disk
      rw [hof] at hofc
      have HOF := Lib.hid hofc
      have hopn := Open_off xb1.disk hof (by have := xb.base.ws; omega)
      have HOPN := Lib.hid hopn
      have hfin : ∀ W, Ext [] W1 W → XState B W x (N + 40) := fun W hx => .inr ⟨_, _, _, ⟨_, _, _, _, _, xb1.nil hx, hof, hho⟩, by omega, fun hs => by have := hpl hs; omega⟩
      have HFIN := Lib.hid hfin
      clear hofc hopn hfin
      go_enter Tryz.func22, Tryz.ntmps22
      go_upto_region 10 with fail
      rw [← hW1]
      clear hW1
      go_wp2_with (first
        | (go_at_call 27; refine HOF.out.mono ?_; rintro e w' ⟨rfl, rfl⟩)
        | (go_at_call 17; refine HOPN.out.mono ?_; rintro e w3 ⟨rfl, x3⟩))
      go_ret
      have x34 : Ext [] W1 (w3.alloc (.cells #[.int .i64 0, .int .i64 0, .slice none 0 0] 27)) := x3.alloc _
      exact ⟨rfl, HB1.out.trans (x34.below (by have := X1.size; omega) (by simp)), HFIN.out _ x34⟩
  · have e3 : (dn == 3) = false := by simpa using h3
    have e4 : (dn == 4) = false := by simpa using h4
    have e5 : (dn == 5) = false := by simpa using h5
    have hnx := Next_calls s (.slice asv s.log.length csv) dn term n data (.slice ak ks.length ck) N W1.drew (RdE.ext xb1.rs XD0) xb.ms hsN hN hdata ⟨_, _, _, rfl⟩
    have HNX := Lib.hid hnx
    have hkp : ∀ W (t : Sv) (v : Value), Ext [] W1 W → RdE W.heap.size W v t.log → mayB t = true → t.log.length ≤ N + 40 → Calls Tryz.prog 8 #[.pointer (some ⟨x, 0, none⟩), .agg #[.int .i64 t.term, .int .i64 t.vote, v]] W fun e w' => DoPost B W x (N + 40) e w' := fun W t v hx hv hm hl => by
      rcases HOR.out with ⟨g, lv, rfl, rfl, hw⟩ | ⟨rfl, hof, hho, hpl⟩
      · refine (wkeep_on (⟨d, m, g, _, p, pv, lv, (hw.nil X1).nil hx⟩ : XOn B W x k s) v hv hm).mono ?_
        rintro e w' ⟨he, hb, hc⟩
        refine ⟨he, hb, ?_⟩
        rcases hc with ⟨k', h1, _⟩ | ⟨h1, _⟩
        · exact .inl ⟨k', t, h1, hl⟩
        · exact .inr ⟨s, t, true, h1, by omega, fun _ => hl⟩
      · obtain ⟨a, c, hv', _, _⟩ := hv.shape
        refine (wkeep_off (⟨d, m, k, _, pv, xb1.nil hx, hof, hho⟩ : XOff B W x s p sm) t.term t.vote v ⟨a, _, c, hv'⟩).mono ?_
        rintro e w' ⟨he, hx2⟩
        exact ⟨he, hx2.below (by have := X1.size; have := hx.size; omega) (by simp), .inr ⟨s, p, sm, ⟨d, m, k, _, pv, (xb1.nil hx).nil hx2, hof, hho⟩, by omega, fun hs => by have := hpl hs; omega⟩⟩
    have HKP := Lib.hid hkp
    clear hnx hkp h3 h4 h5
    go_enter Tryz.func22, Tryz.ntmps22
    go_upto_region 14 with fail
    rw [← hW1]
    clear hW1
    obtain ⟨_, j2, j3, j4, _⟩ := HFAC.out W1 (Ext.refl _ _)
    go_region_with
      (first
        | (go_at_call 24; refine HNX.out.mono ?_; rintro e w2 ⟨t, v, rfl, hv, hm, hl, hb2⟩; obtain ⟨av, cv, rfl, _, _⟩ := hv.shape; have x20 : Ext [] W1 w2 := XD0.trans (Ext.of_below hb2); have x2 : Ext [d, m] W1 w2 := (Ext.refl _ W1).cut (M1 := []) x20 (by simp); have HKT := Lib.hid (HKP.out _ t _ x20 hv hm hl))
        | (go_at_call 8; refine HKT.out.mono ?_; rintro e w3 ⟨rfl, hb3, hs3⟩))
    all_goals
      go_wp2_with fail
      go_ret
      exact ⟨rfl, (HB1.out.trans (x20.below (by have := X1.size; omega) (by simp))).trans hb3, hs3⟩
end Go.Proofs.YtipbfmalacnmkaaGreat
