/- WalKeeps, walked: it returns true. -/
import Derived.Test.YtipbfmalacnmkaaGreatAwake
import Derived.Test.YtipbfmalacnmkaaGreatDo
namespace Go.Proofs.YtipbfmalacnmkaaGreat
open Go.RowKit Go.Shelf

/-- A crash from whatever state: the disk goes, and there is no fuse. -/
def CrashX (B : Nat) (w : World) (x : Nat) (e : Ending) (w' : World) : Prop := e = .returned (.int .i64 0) ∧ Below B w w' ∧ ∃ k s p sm, XReady B w' x k s p sm ∧ k.fuse = -1
theorem crash_state {B x N : Nat} {w : World} (h : XState B w x N) (kv : Value) (ks : List Int) (hk : RdI B w kv ks) : ∃ d, w.cell? ⟨x, 0, none⟩ = some (.pointer (some ⟨d, 0, none⟩)) ∧ Calls Tryz.prog 23 #[.pointer (some ⟨d, 0, none⟩), kv] w fun e w' => CrashX B w x e w' := by
  obtain ⟨d, m, k, wv, s, sv, p, pv, sm, xb, hsN, hor⟩ := h.split
  refine ⟨d, xb.row.facts.c0, (Crash_calls xb.disk kv ks hk xb.bm xb.base.crashable).mono ?_⟩
  rintro e w' ⟨he, k', hck, d2, x2⟩
  refine ⟨he, xb.below x2, k', s, p, sm, ?_, hck.calm⟩
  rcases hor with ⟨g, lv, rfl, rfl, hw⟩ | ⟨rfl, hof, hho, hpl⟩
  · exact XOff.crash xb (.inr ⟨g, rfl⟩) (hw.on.holds.mono (fun t ht => .inl ht)) hck d2 x2
  · exact XOff.crash xb (.inl rfl) hho hck d2 x2
/-- An opening where there is no fuse. -/
def OpenCalm (B : Nat) (w : World) (x : Nat) (e : Ending) (w' : World) : Prop := e = .returned (.bool true) ∧ Below B w w' ∧ ∃ k s, XOn B w' x k s ∧ k.fuse = -1
theorem open_calm {B x : Nat} {w : World} {k : Dk} {s p : Sv} {sm : Bool} (h : XReady B w x k s p sm) (hf : k.fuse = -1) : Calls Tryz.prog 9 #[.pointer (some ⟨x, 0, none⟩)] w fun e w' => OpenCalm B w x e w' :=
  (wopen_calls h).mono fun e w' ⟨he, hb, hc⟩ => ⟨he, hb, by
    rcases hc with ⟨k', s', h3, _, h5⟩ | ⟨_, h4⟩
    · exact ⟨k', s', h3, h5 hf⟩
    · exact absurd hf h4⟩
theorem XOn.cellW {B x : Nat} {w : World} {k : Dk} {s : Sv} (h : XOn B w x k s) : ∃ g, w.cell? ⟨x, 1, none⟩ = some (.pointer (some ⟨g, 0, none⟩)) := by
  obtain ⟨d, m, g, sv, p, pv, lv, h⟩ := h
  exact ⟨g, h.xb.row.facts.c1⟩
theorem XOn.open2 {B x : Nat} {w : World} {k : Dk} {s : Sv} (h : XOn B w x k s) (hf : k.fuse = -1) : Calls Tryz.prog 9 #[.pointer (some ⟨x, 0, none⟩)] w fun e w' => OpenCalm B w x e w' := by
  obtain ⟨p, hr⟩ := h.ready
  exact open_calm hr hf

set_option maxRecDepth 10000 in
set_option maxHeartbeats 2000000 in
theorem keeps_walk {w : World} {v : Value} {l : List Dd} (hl : RdD w.heap.size w v l) : Calls Tryz.prog 5 #[v] w fun e w' => e = .returned (.bool true) ∧ Below w.heap.size w w' := by
  obtain ⟨al, cl, rfl, hlm, _⟩ := id hl
  have hlen : l.length ≤ 9223372036854775807 := by unfold maxLen at hlm; omega
  have HL := Lib.hid hl
  clear hl
  go_enter Tryz.func5, Tryz.ntmps5
  go_wp2_with fail
  refine (awake_calls w).mono ?_
  rintro e w1 ⟨rfl, b1⟩
  go_wp2_with fail
  refine (long_calls (HL.out.below b1)).mono ?_
  rintro e w1' ⟨bl, rfl, rfl, hbl⟩
  cases bl
  · have hsh := hbl rfl
    have HSH := Lib.hid hsh
    have h60 := hsh.1
    clear hbl hsh
    go_wp2_with fail
    refine (begin_calls w1).mono ?_
    rintro e w2 ⟨x, k, rfl, hon, _, b2⟩
    have hs1 := b1.size
    have hD : RdD w1.heap.size w2 (.slice al l.length cl) l := ((HL.out.below b1).mono hs1).below b2
    have HD := Lib.hid hD
    have hst : XState w1.heap.size w2 x (40 * 0) := .inl ⟨k, Sv.zero, hon, by simp [Sv.zero]⟩
    have HST := Lib.hid hst
    clear hD hst hon
    go_wp2_with fail
    go_loopw [5] (fun s5 wr => ∃ i : Nat, i ≤ l.length ∧ s5 = .int .i64 i ∧ Hid (XState w1.heap.size wr x (40 * i) ∧ Below w1.heap.size w2 wr)) (fun s5 _ => (l.length - intOf s5).toNat)
    case atStart => exact ⟨0, by omega, rfl, Lib.hid ⟨HST.out, Below.refl _ _⟩⟩
    case round =>
      obtain ⟨i, hi, rfl, hh⟩ := hrel
      obtain ⟨wo, rfl⟩ : ∃ wo : World, wo = wr := ⟨_, rfl⟩
      by_cases hi2 : i < l.length
      · obtain ⟨_, _, hv, _, hok, hc⟩ := HD.out.below hh.out.2
        cases hv
        obtain ⟨b, off, rfl, _, _, hc2⟩ := hc (by omega)
        obtain ⟨c0, c1, c2, c3, c4⟩ := hc2 i _ (List.getElem?_eq_getElem hi2)
        have hok2 := hok _ (List.getElem_mem hi2)
        have hdo := do_calls hh.out.1 l[i] hok2 (by omega) (HSH.out.2 _ (List.getElem_mem hi2))
        clear hc hc2 hok hok2
        generalize l[i] = y at c0 c1 c2 c3 c4 hdo
        have HDO := Lib.hid hdo
        clear hdo
        have hi0 : (0 : Int) ≤ (i : Int) := by omega
        have hi1 : (i : Int) < (l.length : Int) := by omega
        go_wp2_with (go_at_call 22; refine HDO.out.mono ?_; rintro e w3 ⟨rfl, b3, hs3⟩)
        go_roundw
        case rel => exact ⟨i + 1, by omega, by go_num, Lib.hid ⟨hs3.mono (by omega), hh.out.2.trans b3⟩⟩
        case measure => simp [intOf]; omega
      · obtain rfl : i = l.length := by omega
        obtain ⟨d, c0, hcr⟩ := crash_state hh.out.1 (.slice none 0 0) [] (RdI.nil _ _)
        have HCR := Lib.hid hcr
        clear hcr
        go_wp2_with fail
        refine HCR.out.mono ?_
        rintro e w3 ⟨rfl, b3, k3, s3, p3, sm3, hrd, hf3⟩
        have HOP := Lib.hid (open_calm hrd hf3)
        clear hrd c0 hf3
        go_wp2_with fail
        refine HOP.out.mono ?_
        rintro e w4 ⟨rfl, b4, k4, s4, hon4, hf4⟩
        obtain ⟨g4, c1⟩ := hon4.cellW
        have HOP2 := Lib.hid (hon4.open2 hf4)
        clear hon4 hf4
        go_wp2_with fail
        refine HOP2.out.mono ?_
        rintro e w5 ⟨rfl, b5, _⟩
        go_wp2_with fail
        go_ret
        exact ⟨rfl, b1.trans ((((b2.trans hh.out.2).trans b3).trans (b4.trans b5)).mono hs1)⟩
  · go_wp2_with fail
    go_ret
    exact ⟨rfl, b1⟩
end Go.Proofs.YtipbfmalacnmkaaGreat
