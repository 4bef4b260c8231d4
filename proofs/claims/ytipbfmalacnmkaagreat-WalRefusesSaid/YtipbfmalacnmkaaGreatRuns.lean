/- What wal.runs yields: the records of a chain of runs, and nothing of a run that is torn. -/
import Derived.Test.YtipbfmalacnmkaaGreatSeq
import Derived.Test.YtipbfmalacnmkaaGreatRun
import Derived.TacticsInMore
import Derived.LoopNIn
import Derived.LoopIn
namespace Go.Proofs.YtipbfmalacnmkaaGreat
open Go.RowKit

attribute [local go_sem] Oper.semAt_some

def runsOf (l : List (List UInt8)) : List UInt8 := l.flatMap run
/-- Each record with the place where its run ends. -/
def marks : Nat → List (List UInt8) → List (List UInt8 × Nat)
  | _, [] => []
  | p, r :: rs => (r, p + (run r).length) :: marks (p + (run r).length) rs
/-- A run, cut. -/
def Torn (q : List UInt8) : Prop := ∃ r t, run r = q ++ t ∧ t ≠ []
theorem Torn.nil : Torn [] := ⟨[], run [], rfl, by rw [run_small (by simp)]; exact fun h => by have := congrArg List.length h; rw [frame_length] at this; simp at this⟩
def Stage (xs pre : List (List UInt8 × Nat)) (p : Nat) (acc rest q : List UInt8) : Prop :=
  (∃ r rs, xs = pre ++ (acc ++ r, p + (run r).length) :: marks (p + (run r).length) rs ∧ rest = run r ++ (runsOf rs ++ q)) ∨ (xs = pre ∧ Torn rest)
theorem Stage.start (xs pre : List (List UInt8 × Nat)) (p : Nat) (rs : List (List UInt8)) (q : List UInt8) (hq : Torn q) (h : xs = pre ++ marks p rs) : Stage xs pre p [] (runsOf rs ++ q) q := by
  cases rs with
  | nil => exact .inr ⟨by simpa [marks] using h, by simpa [runsOf] using hq⟩
  | cons r rs => exact .inl ⟨r, rs, by simpa [marks] using h, by simp [runsOf]⟩
theorem Stage.step {xs pre : List (List UInt8 × Nat)} {p : Nat} {acc rest q : List UInt8} (hq : Torn q) (h : Stage xs pre p acc rest q) :
    (∃ ch rest', ch.length ≤ 60000 ∧ rest = frame (0 :: ch) ++ rest' ∧ Stage xs pre (p + (ch.length + 13)) (acc ++ ch) rest' q) ∨
    (∃ ch rest', ch.length ≤ 60000 ∧ rest = frame (1 :: ch) ++ rest' ∧ (pre ++ [(acc ++ ch, p + (ch.length + 13))]) <+: xs ∧ Stage xs (pre ++ [(acc ++ ch, p + (ch.length + 13))]) (p + (ch.length + 13)) [] rest' q) ∨
    (xs = pre ∧ ∃ body c, body.length ≤ 60001 ∧ frame body = rest ++ c ∧ c ≠ []) := by
  rcases h with ⟨r, rs, h1, rfl⟩ | ⟨rfl, r, t, h1, h2⟩
  · by_cases hb : 60000 < r.length
    · have hl : (r.take 60000).length = 60000 := by simp; omega
      refine .inl ⟨r.take 60000, run (r.drop 60000) ++ (runsOf rs ++ q), by omega, by rw [run_big hb, List.append_assoc], .inl ⟨r.drop 60000, rs, ?_, rfl⟩⟩
      have e : p + ((r.take 60000).length + 13) + (run (r.drop 60000)).length = p + (run r).length := by
        rw [run_big hb, List.length_append, frame_length, List.length_cons]; omega
      rw [e, List.append_assoc, List.take_append_drop]
      exact h1
    · have e : (run r).length = r.length + 13 := by rw [run_small hb, frame_length, List.length_cons]
      rw [e] at h1
      refine .inr (.inl ⟨r, runsOf rs ++ q, by omega, by rw [run_small hb], ?_, Stage.start _ _ _ _ _ hq (by rw [h1]; simp)⟩)
      rw [h1]
      exact ⟨marks (p + (r.length + 13)) rs, by simp⟩
  · by_cases hb : 60000 < r.length
    · have hl : (r.take 60000).length = 60000 := by simp; omega
      rw [run_big hb] at h1
      rcases List.append_eq_append_iff.1 h1 with ⟨c, rfl, h3⟩ | ⟨c, h3, h4⟩
      · exact .inl ⟨r.take 60000, c, by omega, rfl, .inr ⟨rfl, _, t, h3, h2⟩⟩
      · by_cases hc : c = []
        · subst hc
          refine .inl ⟨r.take 60000, [], by omega, by simpa using h3.symm, .inr ⟨rfl, r.drop 60000, t, by simpa using h4.symm, h2⟩⟩
        · exact .inr (.inr ⟨rfl, 0 :: r.take 60000, c, by rw [List.length_cons]; omega, h3, hc⟩)
    · rw [run_small hb] at h1
      exact .inr (.inr ⟨rfl, 1 :: r, t, by rw [List.length_cons]; omega, h1, h2⟩)

theorem Ext.below2 {a b c : World} (h1 : Ext [] a b) (h2 : Ext [] a c) (hs : b.heap.size ≤ c.heap.size) : Below a.heap.size b c :=
  ⟨h2.os.trans h1.os.symm, h2.tape.trans h1.tape.symm, h2.output.trans h1.output.symm, hs, fun k hk => (h2.block k hk (by simp)).trans (h1.block k hk (by simp)).symm⟩
theorem wide_fn (k : Nat) : Fence.wide.fn k := trivial
def RelR (y : List UInt8 × Nat) (x : Value × Int) (W : World) : Prop := x.2 = y.2 ∧ RdB W.heap.size W x.1 y.1
def encR (x : Value × Int) : Array Value := #[x.1, .int .i64 x.2]

set_option maxRecDepth 100000 in
set_option maxHeartbeats 1000000 in
theorem runs1_all (n : Nat) (hn : 1 ≤ n) (gb B : Nat) (bv : Value) (recs : List (List UInt8)) (q : List UInt8) (hq : Torn q) (M : List Nat) (w : World) (hbox : w.cell? ⟨gb, 0, none⟩ = some bv) (hgb : gb < w.heap.size) (hM : ∀ k, k ∈ M → B ≤ k ∧ k ≠ gb)
    (hB : B ≤ w.heap.size) (hv : RdB B w bv (runsOf recs ++ q)) (hT : (runsOf recs ++ q).length ≤ 1099511627776) :
    SeqAll n Tryz.prog 79 #[.pointer (some ⟨gb, 0, none⟩)] encR (marks 0 recs) RelR M w := by
  intro l J W hW hJ hY h0
  generalize hxs : marks 0 recs = xs at hY ⊢
  have hst : Stage xs [] 0 [] (runsOf recs ++ q) q := Stage.start _ _ _ _ _ hq (by simp [hxs])
  generalize hb : runsOf recs ++ q = b at hv hT hst
  have hbox0 : W.cell? ⟨gb, 0, none⟩ = some bv := (hW.cellAt hgb (by simp)).trans hbox
  have hv0 : RdB B W bv b := hv.ext hW
  have hgW : gb < W.heap.size := Nat.lt_of_lt_of_le hgb hW.size
  have hBW : B ≤ W.heap.size := Nat.le_trans hB hW.size
  clear hv hbox hW hgb hB w
  obtain ⟨a0, cap0, rfl, hc0, hc1⟩ := hv0.shape
  refine callsIn_of_wp Tryz.func79 rfl trivial ?_ rfl
  simp only [Tryz.ntmps79, List.size_toArray, List.length_cons, List.length_nil, Nat.reduceAdd, Nat.reduceSub, Array.replicate_succ, Array.replicate_zero, List.push_toArray, List.append_toArray, List.nil_append, List.cons_append]
  gi_wp2
  gi_loopw [3, 4] (fun o i wr => ∃ (pre : List (List UInt8 × Nat)) (p : Nat) (acc : List UInt8) (Wl : World), i = .int .i64 p ∧ p ≤ b.length ∧ acc.length + (b.length - p) ≤ b.length ∧ Stage xs pre p acc (b.drop p) q ∧ J pre Wl ∧ Ext [] Wl wr ∧ OwnB wr Wl.heap.size o acc ∧
      wr.cell? ⟨gb, 0, none⟩ = some (.slice a0 b.length cap0) ∧ RdB B wr (.slice a0 b.length cap0) b ∧ gb < Wl.heap.size ∧ B ≤ Wl.heap.size) (fun o i wr => (b.length - intOf i).toNat)
  case atStart => exact ⟨[], 0, [], W, rfl, by omega, by simp, by simpa using hst, h0, Ext.refl _ _, OwnB.nil _ _, hbox0, hv0, hgW, hBW⟩
  case round =>
    obtain ⟨pre, p, acc, Wl, rfl, hp, hal, hst, hJl, hX, hown, hbx, hvr, hgl, hBl⟩ := hrel
    obtain ⟨a1, c1, hs1, hr1⟩ := RdB.slice_l rfl hvr p hp
    have hs1' := fun W => hs1 (p : Int) rfl W
    clear hs1
    have hlen : (b.drop p).length = b.length - p := List.length_drop
    have hz := hX.size
    have hr1' := hr1.mono (Nat.le_trans hBl hz)
    rcases hst.step hq with ⟨ch, rest, hch, hrest, hst'⟩ | ⟨ch, rest, hch, hrest, hpre, hst'⟩ | ⟨hxp, body, c, hbody, hfr, hc⟩
    · have hl1 : (frame (0 :: ch) ++ rest).length = ch.length + 13 + rest.length := by rw [List.length_append, frame_length, List.length_cons]
      have hl2 := congrArg List.length hrest
      rw [hlen, hl1] at hl2
      rw [hrest] at hr1'
      have q1 : p + (ch.length + 13) ≤ b.length := by omega
      have q2 : rest.length ≤ b.length := by omega
      have HL2 := Lib.hid hl2
      have HR := Lib.hid hrest
      have HLN := Lib.hid hlen
      clear hl1 hrest hl2 hlen
      gi_wp2_with (first
          | ((with_reducible refine And.intro (wide_fn 80) ?_); gi_at_call 80; refine (callsIn_wide.2 (Read_calls _ (0 :: ch) rest (by rw [List.length_cons]; omega) (by omega) wr hr1')).mono ?_
             rintro e w1 ⟨v1, rfl, ho1, hb1⟩
             obtain ⟨a2, c2, rfl, hq1, hq2⟩ := ho1.rd.shape
             obtain ⟨b2, off2, rfl, -, hb2, hcell⟩ := Rd.cell (n := ch.length + 1) ho1.rd (by omega)
             have hc0 : w1.cell? ⟨b2, off2, none⟩ = some (.int .u8 0) := hcell 0 (by omega)
             obtain ⟨a3, c3, hs3, hr3⟩ := RdB.slice_l (n := ch.length + 1) rfl ho1.rd 1 (by omega)
             have hs3' : ∀ W, (Instr.slice 30 (.slice (some ⟨b2, off2, none⟩) (ch.length + 1) c2) (some (.int .i64 1)) none none).run Tryz.prog W = .ok (.slice a3 ch.length c3) W := fun W => hs3 1 rfl W
             have hr3' : RdB w1.heap.size w1 (.slice a3 ch.length c3) ch := hr3
             have hb2w : wr.heap.size ≤ b2 := (OwnB.lt ho1 b2 rfl).1
             have hown1 : OwnB w1 Wl.heap.size u3 acc := hown.belowS hb1
             have X1 : Ext [] Wl w1 := hX.cut (M1 := []) (Ext.of_below hb1) (by simp)
             have z1 := hb1.size
             clear hs3 hr3 hcell hq1 hq2)
          | (gi_at_builtin; refine wpListIn_app _ rfl _ _ 30 rfl Wl.heap.size _ acc rfl hown1 _ ch rfl hr3'.src (by omega) (by omega) ?_
             intro v2 w2 ho2 hg2
             have hc2 : w2.cell? ⟨b2, off2, none⟩ = some (.int .u8 0) := (World.cell?_of_block (hg2.block b2 hb2 (fun e => by have := (OwnB.lt hown b2 e.symm).2; omega))).trans hc0
             have X2 : Ext [] Wl w2 := X1.grown hg2 (fun k hk => .inr (OwnB.lt hown1 k hk).1)
             have z2 := hg2.size
             have B2 : Below Wl.heap.size wr w2 := Ext.below2 hX X2 (by omega)
             have hbx2 : w2.cell? ⟨gb, 0, none⟩ = some (.slice a0 b.length cap0) := (B2.cell (p := ⟨gb, 0, none⟩) hgl).trans hbx
             have hvr2 : RdB B w2 (.slice a0 b.length cap0) b := hvr.below (B2.mono hBl)))
      go_roundw
      case rel =>
        refine ⟨pre, p + (ch.length + 13), acc ++ ch, Wl, ?_, q1, by rw [List.length_append]; omega, ?_, hJl, X2, ho2, hbx2, hvr2, hgl, hBl⟩
        · congr 1
        · have e : b.drop (p + (ch.length + 13)) = rest := by
            rw [← List.drop_drop, HR.out, List.drop_left' (by rw [frame_length, List.length_cons])]
          rw [e]
          exact hst'
      case measure => simp only [intOf]; omega
    · have hl1 : (frame (1 :: ch) ++ rest).length = ch.length + 13 + rest.length := by rw [List.length_append, frame_length, List.length_cons]
      have hl2 := congrArg List.length hrest
      rw [hlen, hl1] at hl2
      rw [hrest] at hr1'
      have q1 : p + (ch.length + 13) ≤ b.length := by omega
      have q2 : rest.length ≤ b.length := by omega
      have HL2 := Lib.hid hl2
      have HR := Lib.hid hrest
      have HLN := Lib.hid hlen
      clear hl1 hrest hl2 hlen
      gi_wp2_with (first
          | ((with_reducible refine And.intro (wide_fn 80) ?_); gi_at_call 80; refine (callsIn_wide.2 (Read_calls _ (1 :: ch) rest (by rw [List.length_cons]; omega) (by omega) wr hr1')).mono ?_
             rintro e w1 ⟨v1, rfl, ho1, hb1⟩
             obtain ⟨a2, c2, rfl, hq1, hq2⟩ := ho1.rd.shape
             obtain ⟨b2, off2, rfl, -, hb2, hcell⟩ := Rd.cell (n := ch.length + 1) ho1.rd (by omega)
             have hc0 : w1.cell? ⟨b2, off2, none⟩ = some (.int .u8 1) := hcell 0 (by omega)
             obtain ⟨a3, c3, hs3, hr3⟩ := RdB.slice_l (n := ch.length + 1) rfl ho1.rd 1 (by omega)
             have hs3' : ∀ W, (Instr.slice 30 (.slice (some ⟨b2, off2, none⟩) (ch.length + 1) c2) (some (.int .i64 1)) none none).run Tryz.prog W = .ok (.slice a3 ch.length c3) W := fun W => hs3 1 rfl W
             have hr3' : RdB w1.heap.size w1 (.slice a3 ch.length c3) ch := hr3
             have hb2w : wr.heap.size ≤ b2 := (OwnB.lt ho1 b2 rfl).1
             have hown1 : OwnB w1 Wl.heap.size u3 acc := hown.belowS hb1
             have X1 : Ext [] Wl w1 := hX.cut (M1 := []) (Ext.of_below hb1) (by simp)
             have z1 := hb1.size
             clear hs3 hr3 hcell hq1 hq2)
          | (gi_at_builtin; refine wpListIn_app _ rfl _ _ 30 rfl Wl.heap.size _ acc rfl hown1 _ ch rfl hr3'.src (by omega) (by omega) ?_
             intro v2 w2 ho2 hg2
             have hc2 : w2.cell? ⟨b2, off2, none⟩ = some (.int .u8 1) := (World.cell?_of_block (hg2.block b2 hb2 (fun e => by have := (OwnB.lt hown b2 e.symm).2; omega))).trans hc0
             have X2 : Ext [] Wl w2 := X1.grown hg2 (fun k hk => .inr (OwnB.lt hown1 k hk).1)
             have z2 := hg2.size
             have B2 : Below Wl.heap.size wr w2 := Ext.below2 hX X2 (by omega)
             have hbx2 : w2.cell? ⟨gb, 0, none⟩ = some (.slice a0 b.length cap0) := (B2.cell (p := ⟨gb, 0, none⟩) hgl).trans hbx
             have hvr2 : RdB B w2 (.slice a0 b.length cap0) b := hvr.below (B2.mono hBl)
             obtain ⟨fn, tmps, assign, body, hy, hR⟩ := hY pre (acc ++ ch, p + (ch.length + 13)) (v2, (p : Int) + ((ch.length : Int) + 1 + 12)) w2 (hJ _ _ _ hJl X2) ⟨by simp only []; omega, ho2.rd⟩ hpre
             simp only [encR] at hy))
      refine hR.mono ?_
      rintro e w3 ⟨rfl, hJ3, hx3⟩
      have zw := hX.size
      have hgM : gb ∉ M := fun h => (hM _ h).2 rfl
      have hbx3 : w3.cell? ⟨gb, 0, none⟩ = some (.slice a0 b.length cap0) := (hx3.cellAt (by omega) hgM).trans hbx2
      have hvr3 : RdB B w3 (.slice a0 b.length cap0) b := Rd.keep hvr2 (fun k cur fz hk hc => (hx3.block k (Array.getElem?_eq_some_iff.1 hc).1 (fun h => by have := (hM _ h).1; omega)).trans hc)
      have zx := hx3.size
      gi_wp2
      go_roundw
      case rel =>
        refine ⟨_, p + (ch.length + 13), [], w3, ?_, q1, by simp, ?_, hJ3, Ext.refl _ _, OwnB.nil _ _, hbx3, hvr3, by omega, by omega⟩
        · congr 1
        · have e : b.drop (p + (ch.length + 13)) = rest := by
            rw [← List.drop_drop, HR.out, List.drop_left' (by rw [frame_length, List.length_cons])]
          rw [e]
          exact hst'
      case measure => simp only [intOf]; omega
    · gi_wp2_with ((with_reducible refine And.intro (wide_fn 80) ?_); gi_at_call 80; refine (callsIn_wide.2 (Read_short _ body _ c (by omega) hfr hc wr hr1')).mono ?_; rintro e w1 ⟨rfl, hb1⟩)
      refine bodyPost_ret (results_none rfl _ _ _) rfl ?_
      exact ⟨⟨_, rfl⟩, hxp ▸ hJ _ _ _ hJl (hX.cut (M1 := []) (Ext.of_below hb1) (by simp))⟩
end Go.Proofs.YtipbfmalacnmkaaGreat
