/- The disk: what it holds in memory; what stands against a call; a change. -/
import Derived.Test.YtipbfmalacnmkaaGreatMap
import Derived.Test.YtipbfmalacnmkaaGreatApply
import Derived.Test.YtipbfmalacnmkaaGreatRead3
namespace Go.Proofs.YtipbfmalacnmkaaGreat
open Go.RowKit

structure Fl where
  b : List UInt8
  last : Nat
structure Dk where
  fs : Nm → Option Fl
  off : Bool
  fuse : Int

def FileV (w : World) (v : Value) (f : Fl) : Prop := ∃ a cap, v = .agg #[.slice a f.b.length cap, .int .i64 f.last] ∧ RdB w.heap.size w (.slice a f.b.length cap) f.b
def FileAt (w : World) : Option Value → Option Fl → Prop
  | some v, some f => FileV w v f
  | none, none => True
  | _, _ => False
/-- Disk k, in blocks d and m. -/
def DiskAt (w : World) (d m : Nat) (k : Dk) : Prop := ∃ g, w.heap[d]? = some (.cells #[.map (some m), .bool k.off, .int .i64 k.fuse] 48 (0, 0)) ∧ MapAt w m g ∧ ∀ x, FileAt w (g x) (k.fs x)

theorem FileAt.keep {w w' : World} {v : Option Value} {f : Option Fl} (h : FileAt w v f) (hs : w.heap.size ≤ w'.heap.size) (hk : ∀ (q : Nat) (cur : Array Value) (fz : Nat × Nat), w.heap[q]? = some (.cells cur 5 fz) → w'.heap[q]? = some (.cells cur 5 fz)) : FileAt w' v f := by
  cases v <;> cases f <;> first | exact h | skip
  obtain ⟨a, cap, h1, h2⟩ := h
  exact ⟨a, cap, h1, RdB.mono (Rd.keep h2 (fun q cur fz _ hc => hk q cur fz hc)) hs⟩
theorem Ext.allocSet {M : List Nat} {w0 w : World} (h : Ext M w0 w) (o : Obj) (u : Value) {j : Nat} : Ext M w0 ((w.alloc o).setCell ⟨w.heap.size, j, none⟩ u) :=
  (h.alloc o).setCell (p := ⟨w.heap.size, j, none⟩) (.inr h.size) u
section
variable {w w' : World} {d m : Nat} {k : Dk} {M : List Nat}
theorem DiskAt.lt (h : DiskAt w d m k) : d < w.heap.size := by obtain ⟨g, h1, _⟩ := h; exact (Array.getElem?_eq_some_iff.1 h1).1
theorem DiskAt.ltm (h : DiskAt w d m k) : m < w.heap.size := by obtain ⟨g, _, h2, _⟩ := h; exact h2.lt
theorem DiskAt.ne (h : DiskAt w d m k) : d ≠ m := by
  obtain ⟨g, h1, h2, _⟩ := h
  rintro rfl
  obtain ⟨es, clock, h3⟩ := h2.block
  rw [h1] at h3
  cases h3
theorem DiskAt.ext (h : DiskAt w d m k) (hx : Ext M w w') (hM : ∀ q ∈ M, q ≠ d ∧ q ≠ m ∧ ∀ cur fz, w.heap[q]? ≠ some (.cells cur 5 fz)) : DiskAt w' d m k := by
  have l1 := h.lt
  have l2 := h.ltm
  obtain ⟨g, h1, h2, h3⟩ := h
  refine ⟨g, (hx.block d l1 (fun hm => (hM d hm).1 rfl)).trans h1, h2.of_heap (hx.block m l2 (fun hm => (hM m hm).2.1 rfl)), fun x => (h3 x).keep hx.size (fun q cur fz hc => ?_)⟩
  exact (hx.block q (Array.getElem?_eq_some_iff.1 hc).1 (fun hm => (hM q hm).2.2 cur fz hc)).trans hc
theorem DiskAt.nil (h : DiskAt w d m k) (hx : Ext [] w w') : DiskAt w' d m k := h.ext hx (by simp)
theorem DiskAt.c0 (h : DiskAt w d m k) : w.cell? ⟨d, 0, none⟩ = some (.map (some m)) := by obtain ⟨g, h1, _⟩ := h; rw [cell_of_row _ _ _ _ _ _ h1]; rfl
theorem DiskAt.c1 (h : DiskAt w d m k) : w.cell? ⟨d, 1, none⟩ = some (.bool k.off) := by obtain ⟨g, h1, _⟩ := h; rw [cell_of_row _ _ _ _ _ _ h1]; rfl
theorem DiskAt.c2 (h : DiskAt w d m k) : w.cell? ⟨d, 2, none⟩ = some (.int .i64 k.fuse) := by obtain ⟨g, h1, _⟩ := h; rw [cell_of_row _ _ _ _ _ _ h1]; rfl
theorem DiskAt.f (h : DiskAt w d m k) (o : Nat) : w.frozen? ⟨d, o, none⟩ = false := by obtain ⟨g, h1, _⟩ := h; exact frozen_of_row _ _ _ _ _ h1
theorem DiskAt.setRow (h : DiskAt w d m k) (hx : Ext [d] w w') (k' : Dk) (hk : k'.fs = k.fs) (h1 : w'.heap[d]? = some (.cells #[.map (some m), .bool k'.off, .int .i64 k'.fuse] 48 (0, 0))) : DiskAt w' d m k' := by
  have hne := h.ne
  have l2 := h.ltm
  obtain ⟨g, h0, h2, h3⟩ := h
  refine ⟨g, h1, h2.of_heap (hx.block m l2 (by simpa using hne.symm)), fun x => ?_⟩
  rw [hk]
  refine (h3 x).keep hx.size (fun q cur fz hc => (hx.block q (Array.getElem?_eq_some_iff.1 hc).1 ?_).trans hc)
  rw [List.mem_singleton]
  rintro rfl
  rw [h0] at hc
  cases hc
end

theorem neq46 (w : World) (r : Option Nat) : (binOp .neq 46 (.map r) (.map none)).run Tryz.prog w = .ok (.bool (!r.isNone)) w := run_neq_map_nil w _ _ _ r Tryz.underlying46
set_option maxHeartbeats 400000 in
theorem made_nil (w : World) : Calls Tryz.prog 45 #[.pointer none] w fun e w' => e = .returned (.bool false) ∧ w = w' := by
  go_enter Tryz.func45, Tryz.ntmps45
  go_wp2
  go_ret
  exact ⟨rfl, rfl⟩
set_option maxHeartbeats 400000 in
theorem made_zero (d : Nat) (w : World) (h0 : w.cell? ⟨d, 0, none⟩ = some (.map none)) : Calls Tryz.prog 45 #[.pointer (some ⟨d, 0, none⟩)] w fun e w' => e = .returned (.bool false) ∧ w = w' := by
  have q := neq46
  go_enter Tryz.func45, Tryz.ntmps45
  go_wp2
  go_ret
  exact ⟨rfl, rfl⟩
set_option maxHeartbeats 400000 in
theorem made_calls (d m : Nat) (w : World) (h0 : w.cell? ⟨d, 0, none⟩ = some (.map (some m))) : Calls Tryz.prog 45 #[.pointer (some ⟨d, 0, none⟩)] w fun e w' => e = .returned (.bool true) ∧ w = w' := by
  have q := neq46
  go_enter Tryz.func45, Tryz.ntmps45
  go_wp2
  go_ret
  exact ⟨rfl, rfl⟩
theorem goes_nil (w : World) : Calls Tryz.prog 41 #[.pointer none] w fun e w' => e = .returned (.int .i64 1) ∧ w = w' := by
  go_enter Tryz.func41, Tryz.ntmps41
  go_wp2_with (go_at_call 45; refine (made_nil _).mono ?_; rintro e w' ⟨rfl, rfl⟩)
  go_ret
  exact ⟨rfl, rfl⟩
theorem goes_zero (d : Nat) (w : World) (h0 : w.cell? ⟨d, 0, none⟩ = some (.map none)) : Calls Tryz.prog 41 #[.pointer (some ⟨d, 0, none⟩)] w fun e w' => e = .returned (.int .i64 1) ∧ w = w' := by
  go_enter Tryz.func41, Tryz.ntmps41
  go_wp2_with (go_at_call 45; refine (made_zero d _ h0).mono ?_; rintro e w' ⟨rfl, rfl⟩)
  go_ret
  exact ⟨rfl, rfl⟩
def Dk.err (k : Dk) : Int := if k.off then 250 else 0
theorem goes_calls {w : World} {d m : Nat} {k : Dk} (hd : DiskAt w d m k) : Calls Tryz.prog 41 #[.pointer (some ⟨d, 0, none⟩)] w fun e w' => e = .returned (.int .i64 k.err) ∧ w = w' := by
  have h1 := hd.c1
  have h0 := hd.c0
  unfold Dk.err
  cases hoff : k.off <;> rw [hoff] at h1
  · go_enter Tryz.func41, Tryz.ntmps41
    go_wp2_with (go_at_call 45; refine (made_calls d m _ h0).mono ?_; rintro e w' ⟨rfl, rfl⟩)
    go_ret
    exact ⟨rfl, rfl⟩
  · go_enter Tryz.func41, Tryz.ntmps41
    go_wp2_with (go_at_call 45; refine (made_calls d m _ h0).mono ?_; rintro e w' ⟨rfl, rfl⟩)
    go_ret
    exact ⟨rfl, rfl⟩
def Dk.errAt (k : Dk) (x : Nm) : Int := if k.off then 250 else if (k.fs x).isSome then 0 else 5
theorem FileAt.some_iff {w : World} {v : Option Value} {f : Option Fl} (h : FileAt w v f) : v.isSome = f.isSome := by cases v <;> cases f <;> first | rfl | exact h.elim
set_option maxRecDepth 10000 in
set_option maxHeartbeats 800000 in
theorem there_calls {w : World} {d m : Nat} {k : Dk} (hd : DiskAt w d m k) (x : Nm) : Calls Tryz.prog 48 #[.pointer (some ⟨d, 0, none⟩), x.str] w fun e w' => e = .returned (.int .i64 (k.errAt x)) ∧ Ext [] w w' := by
  have h0 := hd.c0
  have hg := goes_calls hd
  obtain ⟨g, hrow, hmap, hfs⟩ := hd
  have hl := hmap.look2 x
  have hs := (hfs x).some_iff
  have hfx := hfs x
  unfold Dk.errAt
  cases hoff : k.off
  · have hge : k.err = 0 := by simp [Dk.err, hoff]
    rw [hge] at hg
    cases hkx : k.fs x with
    | none =>
      cases hgx : g x with
      | some v => rw [hkx, hgx] at hfx; exact hfx.elim
      | none =>
        rw [hgx] at hl
        obtain ⟨ks, hks⟩ : ∃ ks, x.str = .string ks := ⟨_, rfl⟩
        rw [hks] at hl ⊢
        go_enter Tryz.func48, Tryz.ntmps48
        go_wp2_with (go_at_call 41; refine hg.mono ?_; rintro e w' ⟨rfl, rfl⟩)
        go_ret
        exact ⟨rfl, (Ext.refl [] w).alloc _⟩
    | some f =>
      cases hgx : g x with
      | none => rw [hkx, hgx] at hfx; exact hfx.elim
      | some v =>
        rw [hgx] at hl
        rw [hkx, hgx] at hfx
        obtain ⟨af, cf, rfl, hfb⟩ := hfx
        obtain ⟨ks, hks⟩ : ∃ ks, x.str = .string ks := ⟨_, rfl⟩
        rw [hks] at hl ⊢
        generalize f.b.length = fl at hl hfb
        go_enter Tryz.func48, Tryz.ntmps48
        go_wp2_with (go_at_call 41; refine hg.mono ?_; rintro e w' ⟨rfl, rfl⟩)
        go_ret
        exact ⟨rfl, (Ext.refl [] w).alloc _⟩
  · have hge : k.err = 250 := by simp [Dk.err, hoff]
    rw [hge] at hg
    obtain ⟨ks, hks⟩ : ∃ ks, x.str = .string ks := ⟨_, rfl⟩
    rw [hks]
    go_enter Tryz.func48, Tryz.ntmps48
    go_wp2_with (go_at_call 41; refine hg.mono ?_; rintro e w' ⟨rfl, rfl⟩)
    go_ret
    exact ⟨rfl, Ext.refl _ _⟩

theorem RdB.slice_hm {B : Nat} {w : World} {a : Option Addr} {n cap : Nat} {l : List UInt8} (hn : l.length = n) (h : RdB B w (.slice a n cap) l) :
    ∃ a', (∀ (x y : Int), x = n → y = n → ∀ W, (Instr.slice 30 (.slice a n cap) none (some (.int .i64 x)) (some (.int .i64 y))).run Tryz.prog W = .ok (.slice a' n n) W) ∧ RdB B w (.slice a' n n) l := by
  subst hn
  obtain ⟨_, _, e, hc, _⟩ := Rd.shape h
  cases e
  have h0 := RdB.sliced rfl h 0 l.length l.length (Nat.zero_le _) (Nat.le_refl _) (Nat.le_refl _) (by omega)
  simp only [List.drop_zero, Nat.sub_zero, List.take_length] at h0
  refine ⟨_, ?_, h0⟩
  rintro x y rfl rfl W
  rw [run_slice_hm W 30 a l.length cap under30 .i64 .i64 l.length l.length (by omega) (by omega) (by omega), elem30, run_size5]
  rfl
set_option maxRecDepth 10000 in
theorem Clip_calls (a : Option Addr) (cap : Nat) (l : List UInt8) (B : Nat) (w : World) (h : RdB B w (.slice a l.length cap) l) : Calls Tryz.prog 44 #[.slice a l.length cap] w fun e w' => ∃ a', e = .returned (.slice a' l.length l.length) ∧ RdB B w (.slice a' l.length l.length) l ∧ w = w' := by
  obtain ⟨a', h1, h2⟩ := RdB.slice_hm rfl h
  have h1' := fun W => h1 (l.length : Int) (l.length : Int) rfl rfl W
  clear h1
  go_enter Tryz.func44, Tryz.ntmps44
  go_wp2
  go_ret
  exact ⟨a', rfl, h2, rfl⟩
/-- A change behind which the deed is done: what the fuse and the power are. -/
def Dk.blown (k : Dk) : Dk := { k with off := true, fuse := -1 }
def Dk.burnt (k : Dk) : Dk := { k with fuse := if 0 < k.fuse then k.fuse - 1 else k.fuse }

theorem DiskAt.blow {w : World} {d m : Nat} {k : Dk} (h : DiskAt w d m k) : DiskAt ((w.setCell ⟨d, 2, none⟩ (.int .i64 (-1))).setCell ⟨d, 1, none⟩ (.bool true)) d m k.blown := by
  obtain ⟨g, h1, _⟩ := id h
  exact h.setRow (((Ext.refl [d] w).setCell (p := ⟨d, 2, none⟩) (.inl (by simp)) _).setCell (p := ⟨d, 1, none⟩) (.inl (by simp)) _) _ rfl (heap_set (o := 1) (.bool true) (heap_set (o := 2) (.int .i64 (-1)) h1))
theorem DiskAt.setFuse {w : World} {d m : Nat} {k : Dk} (h : DiskAt w d m k) (n : Int) : DiskAt (w.setCell ⟨d, 2, none⟩ (.int .i64 n)) d m { k with fuse := n } := by
  obtain ⟨g, h1, _⟩ := id h
  exact h.setRow ((Ext.refl [d] w).setCell (p := ⟨d, 2, none⟩) (.inl (by simp)) _) _ rfl (heap_set (o := 2) (.int .i64 n) h1)
set_option maxRecDepth 10000 in
set_option maxHeartbeats 800000 in
theorem change_calls {w : World} {d m : Nat} {k : Dk} (hd : DiskAt w d m k) (n : Nat) (cap : Array Value) (hen : ∀ args w, (callFunc n args).run Tryz.prog w = .ok (.enter n args) w) (late : Bool) (hlo : -9223372036854775808 < k.fuse) (hhi : k.fuse < 9223372036854775808) (R : Dk → World → World → Prop)
    (hdo : ∀ w1 k1, Ext [d] w w1 → DiskAt w1 d m k1 → k1.fs = k.fs → Calls Tryz.prog n cap w1 fun e w' => (∃ v, e = .returned v) ∧ R k1 w1 w') :
    Calls Tryz.prog 42 #[.pointer (some ⟨d, 0, none⟩), .bool late, .func (.func n) #[] cap] w fun e w' =>
      (k.fuse = 0 ∧ e = .returned (.int .i64 250) ∧ ∃ w1, Ext [d] w w1 ∧ DiskAt w1 d m k.blown ∧ (if late then R k.blown w1 w' else w' = w1)) ∨
      (k.fuse ≠ 0 ∧ e = .returned (.int .i64 0) ∧ ∃ w1, Ext [d] w w1 ∧ DiskAt w1 d m k.burnt ∧ R k.burnt w1 w') := by
  have h2 := hd.c2
  have f1 := hd.f 1
  have f2 := hd.f 2
  have h1 := hd.c1
  by_cases h0 : k.fuse = 0
  · rw [h0] at h2
    clear hlo hhi
    have hb := hd.blow
    have hX : Ext [d] w ((w.setCell ⟨d, 2, none⟩ (.int .i64 (-1))).setCell ⟨d, 1, none⟩ (.bool true)) := ((Ext.refl [d] w).setCell (p := ⟨d, 2, none⟩) (.inl (by simp)) _).setCell (p := ⟨d, 1, none⟩) (.inl (by simp)) _
    have hdo' := hdo _ _ hX hb rfl
    have H0 := Lib.hid h0
    clear h0 hdo
    refine Calls.mono (R := fun e w' => e = .returned (.int .i64 250) ∧ ∃ w1, Ext [d] w w1 ∧ DiskAt w1 d m k.blown ∧ (if late then R k.blown w1 w' else w' = w1)) ?_ (fun e w' h => .inl ⟨H0.out, h⟩)
    cases late
    · go_enter Tryz.func42, Tryz.ntmps42
      go_wp2
      go_ret
      exact ⟨rfl, hX, hb⟩
    · go_enter Tryz.func42, Tryz.ntmps42
      go_wp2
      refine hdo'.mono ?_
      rintro e w' ⟨⟨v, rfl⟩, hR⟩
      clear hdo' h1 h2 f1 f2
      go_wp2
      go_ret
      exact ⟨rfl, _, hX, hb, by simpa using hR⟩
  · refine Calls.mono (R := fun e w' => e = .returned (.int .i64 0) ∧ ∃ w1, Ext [d] w w1 ∧ DiskAt w1 d m k.burnt ∧ R k.burnt w1 w') ?_ (fun e w' h => .inr ⟨h0, h⟩)
    by_cases hp : 0 < k.fuse
    · have hk : k.burnt = { k with fuse := k.fuse - 1 } := by unfold Dk.burnt; rw [if_pos hp]
      rw [hk]
      have hw : IntKind.i64.wrap (k.fuse - 1) = k.fuse - 1 := by unfold IntKind.wrap; simp [IntKind.signed, IntKind.bits]; omega
      have hb := hd.setFuse (k.fuse - 1)
      have hX : Ext [d] w (w.setCell ⟨d, 2, none⟩ (.int .i64 (k.fuse - 1))) := (Ext.refl [d] w).setCell (p := ⟨d, 2, none⟩) (.inl (by simp)) _
      have hdo' := hdo _ _ hX hb rfl
      clear hlo hhi hdo
      have hn : (k.fuse == 0) = false := by simpa using h0
      cases late
      all_goals
        go_enter Tryz.func42, Tryz.ntmps42
        go_wp2
        refine hdo'.mono ?_
        rintro e w' ⟨⟨v, rfl⟩, hR⟩
        clear hdo' h1 h2 f1 f2
        go_wp2
        go_ret
        exact ⟨rfl, _, hX, hb, hR⟩
    · have hk : k.burnt = k := by unfold Dk.burnt; rw [if_neg hp]
      rw [hk]
      have hdo' := hdo _ _ (Ext.refl [d] w) hd rfl
      clear hlo hhi hdo
      have hn : (k.fuse == 0) = false := by simpa using h0
      cases late
      all_goals
        go_enter Tryz.func42, Tryz.ntmps42
        go_wp2
        refine hdo'.mono ?_
        rintro e w' ⟨⟨v, rfl⟩, hR⟩
        clear hdo' h1 h2 f1 f2
        go_wp2
        go_ret
        exact ⟨rfl, _, Ext.refl [d] w, hd, hR⟩
end Go.Proofs.YtipbfmalacnmkaaGreat
