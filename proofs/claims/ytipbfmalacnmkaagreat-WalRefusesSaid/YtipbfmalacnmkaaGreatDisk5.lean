/- The disk's calls: Read, Off, Fuse, Waits, New. -/
import Derived.Test.YtipbfmalacnmkaaGreatDisk4
import Derived.Carry
namespace Go.Proofs.YtipbfmalacnmkaaGreat
open Go.RowKit Go.Shelf

theorem Off_calls {w : World} {d m : Nat} {k : Dk} (hd : DiskAt w d m k) : Calls Tryz.prog 27 #[.pointer (some ⟨d, 0, none⟩)] w fun e w' => e = .returned (.bool k.off) ∧ w = w' := by
  have h1 := hd.c1
  go_enter Tryz.func27, Tryz.ntmps27
  go_wp2
  go_ret
  exact ⟨rfl, rfl⟩
def Dk.setFuse (k : Dk) (n : Int) : Int × Dk := if k.off then (250, k) else if n < 0 then (1, k) else (0, { k with fuse := n })
set_option maxRecDepth 10000 in
theorem Fuse_calls {w : World} {d m : Nat} {k : Dk} (hd : DiskAt w d m k) (n : Int) : Calls Tryz.prog 18 #[.pointer (some ⟨d, 0, none⟩), .int .i64 n] w fun e w' => e = .returned (.int .i64 (k.setFuse n).1) ∧ DiskAt w' d m (k.setFuse n).2 ∧ Ext [d] w w' := by
  have h2 := hd.c2
  have f2 := hd.f 2
  have hg := goes_calls hd
  unfold Dk.setFuse
  cases hoff : k.off
  · have he : k.err = 0 := by simp [Dk.err, hoff]
    rw [he] at hg
    by_cases hn : n < 0
    · rw [if_neg (by simp), if_pos hn]
      go_enter Tryz.func18, Tryz.ntmps18
      go_wp2_with (go_at_call 41; refine hg.mono ?_; rintro e w' ⟨rfl, rfl⟩)
      go_ret
      exact ⟨rfl, hd, Ext.refl _ _⟩
    · rw [if_neg (by simp), if_neg hn]
      have hb := hd.setFuse n
      have hX : Ext [d] w (w.setCell ⟨d, 2, none⟩ (.int .i64 n)) := (Ext.refl [d] w).setCell (p := ⟨d, 2, none⟩) (.inl (by simp)) _
      go_enter Tryz.func18, Tryz.ntmps18
      go_wp2_with (go_at_call 41; refine hg.mono ?_; rintro e w' ⟨rfl, rfl⟩)
      go_ret
      exact ⟨rfl, by rw [← hoff]; exact hb, hX⟩
  · have he : k.err = 250 := by simp [Dk.err, hoff]
    rw [he] at hg
    rw [if_pos rfl]
    go_enter Tryz.func18, Tryz.ntmps18
    go_wp2_with (go_at_call 41; refine hg.mono ?_; rintro e w' ⟨rfl, rfl⟩)
    go_ret
    exact ⟨rfl, hd, Ext.refl _ _⟩
set_option maxRecDepth 10000 in
theorem Waits_calls {w : World} {d m : Nat} {k : Dk} (hd : DiskAt w d m k) (x : Nm) (h1 : (k.get x).b.length ≤ 1099511627776) (h2 : (k.get x).last ≤ (k.get x).b.length) :
    Calls Tryz.prog 37 #[.pointer (some ⟨d, 0, none⟩), x.str] w fun e w' => e = .returned (.int .i64 ((k.get x).b.length - (k.get x).last : Nat)) ∧ Ext [] w w' := by
  have p0 := hd.c0
  obtain ⟨g, hrow, hmap, hfs⟩ := id hd
  obtain ⟨a, cap, hv, hrd⟩ := (hfs x).get
  obtain ⟨ks, hks⟩ : ∃ ks, x.str = .string ks := ⟨_, rfl⟩
  have hl := hmap.look x
  rw [hv, hks] at hl
  rw [hks]
  change _ = Value.agg #[.slice a (k.get x).b.length cap, .int .i64 (k.get x).last] at hv
  generalize hf : k.get x = f at *
  have hl1 : (Instr.lookup 46 (.map (some m)) (.string ks) false).run Tryz.prog w = .ok (.agg #[.slice a f.b.length cap, .int .i64 f.last]) w := by rw [← hf]; exact hl
  have hmd := made_calls d m w p0
  clear hl hv hrd
  have hs : ((f.b.length - f.last : Nat) : Int) = (f.b.length : Int) - f.last := by omega
  have HS := Lib.hid hs
  clear hs
  go_enter Tryz.func37, Tryz.ntmps37
  go_wp2_with (go_at_call 45; refine hmd.mono ?_; rintro e w' ⟨rfl, rfl⟩)
  go_ret
  exact ⟨by rw [HS.out]; rfl, (Ext.refl [] w).alloc _⟩

theorem field80 (a : Option Addr) (n c : Nat) (l : Value) (W : World) : (Instr.field 80 (.agg #[.slice a n c, l]) 0).run Tryz.prog W = .ok (.slice a n c) W := by
  have h1 : (asAgg (.agg #[.slice a n c, l])).run Tryz.prog W = .ok #[.slice a n c, l] W := rfl
  have h2 : (isAgg 30).run Tryz.prog W = .ok false W := by simp [isAgg, run_underlying Tryz.underlying30, Result.andThen]
  simp [Instr.field, run_underlying Tryz.underlying80, Result.andThen, h1, part, h2]
theorem wpList_app_full {ops : Array Oper} {rest : List Oper} {o : Oper} {a : Act} {Q : Exit → Act → World → Prop} (w : World) (hgd : o.guard = none) (s x : Operand)
    (ho : o.op = .call { callee := .builtin .append, args := #[s, x], argTypes := #[30, 30] }) (B : Nat) (ad : Option Addr) (l : List UInt8) (hs : a.eval s = .slice ad l.length l.length) (h : RdB B w (.slice ad l.length l.length) l)
    (xv : Value) (m : List UInt8) (hx : a.eval x = xv) (hm : RdB w.heap.size w xv m) (hsz : l.length + m.length ≤ 140737488355328)
    (hK : ∀ a' c' w', Ext [] w w' → RdB w'.heap.size w' (.slice a' (l.length + m.length) c') (l ++ m) → wpList Tryz.prog ops Q rest (a.put o.dst (.slice a' (l.length + m.length) c')) w') : wpList Tryz.prog ops Q (o :: rest) a w := by
  refine wpList_plain hgd fun K hK' => ?_
  have hst := step_append_full (ops := ops) (o := o) (a := a) (w := w) (K := K) (Q := Q) (E := False) hgd s x ho B ad l hs h xv m hx hm hsz (fun a' c' w' h1 h2 => hK' _ _ (hK a' c' w' h1 h2))
  have hw : Region.wanted o (yielded ops a.tmps) = true := by simp [Region.wanted, hgd]
  rw [if_pos hw] at hst
  exact hst

set_option maxRecDepth 10000 in
set_option maxHeartbeats 800000 in
theorem Read_disk_calls {w : World} {d m : Nat} {k : Dk} (hd : DiskAt w d m k) (x : Nm) (h1 : (k.get x).b.length ≤ 1099511627776) :
    Calls Tryz.prog 36 #[.pointer (some ⟨d, 0, none⟩), x.str] w fun e w' => ∃ v, e = .returned (.tuple #[v, .int .i64 (k.errAt x)]) ∧ RdB w'.heap.size w' v (if k.errAt x = 0 then (k.get x).b else []) ∧ Ext [] w w' := by
  have hth := there_calls hd x
  obtain ⟨ks, hks⟩ : ∃ ks, x.str = .string ks := ⟨_, rfl⟩
  by_cases he : k.errAt x = 0
  · rw [he] at hth ⊢
    rw [if_pos rfl]
    rw [hks] at hth ⊢
    clear he
    go_enter Tryz.func36, Tryz.ntmps36
    obtain ⟨g, hrow, hmap, hfs⟩ := id hd
    obtain ⟨a, cap, hv, hrd⟩ := (hfs x).get
    change _ = Value.agg #[.slice a (k.get x).b.length cap, .int .i64 (k.get x).last] at hv
    change RdB _ _ (.slice a (k.get x).b.length cap) (k.get x).b at hrd
    generalize hf : k.get x = f at *
    have hlk : ∀ W, W.heap[m]? = w.heap[m]? → (Instr.lookup 46 (.map (some m)) (.string ks) false).run Tryz.prog W = .ok (.agg #[.slice a f.b.length cap, .int .i64 f.last]) W := fun W hW => by
      have := (hmap.of_heap hW).look x
      rw [hv, hks] at this
      exact this
    have ld := hd.lt
    have lm := hd.ltm
    have hfd := field80
    have HL := Lib.hid hlk
    have p00 := hd.c0
    clear hlk hv hrow hfs
    go_wp2_with (first
      | (go_at_call 48; refine hth.mono ?_; rintro e w' ⟨rfl, x0⟩
         have x1 : Ext [] w (w'.alloc (.cells #[] 5)) := x0.alloc _
         have p0 : (w'.alloc (.cells #[] 5)).cell? ⟨d, 0, none⟩ = some (.map (some m)) := (x1.cellAt ld (by simp)).trans p00
         have hl1 := HL.out _ (x1.block m lm (by simp)))
      | (at_builtin; refine wpList_app_full _ rfl _ _ rfl 0 (some ⟨w'.heap.size, 0, none⟩) [] rfl ⟨_, 0, rfl, rfl, Nat.le_refl _, Nat.zero_le _, .inl rfl⟩ _ f.b rfl (RdB.mono (Rd.ext hrd x1) x1.size) (by simp; omega) ?_; intro a5 c5 w5 x5 r5))
    go_ret2
    refine ⟨_, rfl, by simpa using r5, x1.trans x5⟩
  · rw [if_neg he]
    have hne : (k.errAt x == 0) = false := by simpa using he
    rw [hks] at hth ⊢
    clear he
    go_enter Tryz.func36, Tryz.ntmps36
    go_wp2_with (go_at_call 48; refine hth.mono ?_; rintro e w' ⟨rfl, x0⟩)
    go_ret2
    exact ⟨_, rfl, Rd.nil _ _ _ _, x0⟩
set_option maxRecDepth 10000 in
theorem New_calls (w : World) : Calls Tryz.prog 25 #[] w fun e w' => e = .returned (.pointer (some ⟨w.heap.size + 1, 0, none⟩)) ∧ DiskAt w' (w.heap.size + 1) w.heap.size ⟨fun _ => none, false, -1⟩ ∧ Ext [] w w' := by
  have hmm := @run_makeMap Tryz.prog
  go_enter Tryz.func25, Tryz.ntmps25
  go_wp2
  go_ret
  have hm : MapAt (w.alloc (.map #[] 0)) w.heap.size (fun _ => none) := .of_owns (n := 0) (World.ownsMap_made w Tryz.prog 9 RV)
  refine ⟨rfl, ⟨fun _ => none, ?_, hm.of_heap (Below.heap_alloc _ _ _ (by simp)), fun _ => trivial⟩, ((Ext.refl [] w).alloc _).alloc _⟩
  have := heap_alloc_new (w.alloc (.map #[] 0)) (.cells #[.map (some w.heap.size), .bool false, .int .i64 (-1)] 48)
  simpa using this
end Go.Proofs.YtipbfmalacnmkaaGreat
