/- What wal.apply does: a record of what may be kept, applied to what is saved. -/
import Derived.Test.YtipbfmalacnmkaaGreatNum
import Derived.Test.YtipbfmalacnmkaaGreatRec
import Derived.Deep.RegionLaw
import Derived.Deep.DeepCutAuto
import Derived.Outline
namespace Go.Proofs.YtipbfmalacnmkaaGreat
open Go.RowKit

/-- What is saved, in block b: three cells, the log read in blocks below B. -/
def SavAt (B : Nat) (w : World) (b : Nat) (s : Sv) : Prop := ∃ lv, w.heap[b]? = some (.cells #[.int .i64 s.term, .int .i64 s.vote, lv] 27 (0, 0)) ∧ RdE B w lv s.log

/-- A log that may be appended to: without spare room, or the call's own. -/
def LogV (base : Nat) (w : World) (lv : Value) (M : List Ent) : Prop := RdE w.heap.size w lv M ∧ ((∃ a, lv = .slice a M.length M.length) ∨ OwnE w base lv M)
theorem LogV.of_own {base : Nat} {w : World} {lv : Value} {M : List Ent} (h : OwnE w base lv M) : LogV base w lv M := ⟨h.rd, .inr h⟩
theorem LogV.ext {base : Nat} {w w' : World} {lv : Value} {M : List Ent} (h : LogV base w lv M) (hx : Ext [] w w') : LogV base w' lv M :=
  ⟨(h.1.ext hx).mono hx.size, h.2.imp id (fun h => h.ext hx)⟩
theorem run_append_logv (base : Nat) (w : World) (ty : TypeId) (lv : Value) (M : List Ent) (h : LogV base w lv M) (x : Value) (N : List Ent) (hs : Src Tryz.prog 2 25 x N.length (ecs N) w) (hN : 0 < N.length)
    (hsz : M.length + N.length ≤ 1099511627776) (hbase : base ≤ w.heap.size) :
    ∃ v' w', (Builtin.append_ #[25, 25] ty #[lv, x]).run Tryz.prog w = .ok v' w' ∧ OwnE w' base v' (M ++ N) ∧ Below base w w' := by
  obtain ⟨i, hi, hz, h1, h2⟩ := info_parts Tryz.infoE
  obtain ⟨hrd, ⟨a, rfl⟩ | hown⟩ := h
  · obtain ⟨v', w', hr, hx, h3⟩ := run_append_full_src (P := Tryz.prog) w w.heap.size 25 25 ty 29 i _ 2 24 Tryz.underlying25 hi hz h1 h2 rfl a M.length (ecs M) hrd (ecs_one M) x N.length (ecs N) hs (by unfold maxLen; omega) (by omega)
    rcases h3 with ⟨h3, _⟩ | ⟨_, h3⟩
    · omega
    · refine ⟨v', w', hr, ?_, hx.below hbase (by simp)⟩
      refine OwnE.lower (base := w.heap.size) ?_ hbase
      unfold OwnE
      rw [List.length_append, ecs_append]
      exact h3
  · obtain ⟨v', w', hr, h3, hg⟩ := run_append_own_src (P := Tryz.prog) w base 25 25 ty 29 i _ 2 24 Tryz.underlying25 hi hz h1 h2 rfl lv M.length (ecs M) hown x N.length (ecs N) hs (by unfold maxLen; omega) (by omega) hbase
    refine ⟨v', w', hr, ?_, (Below.refl _ _).grown hg hbase (fun k hk => (OwnE.lt hown k hk).1)⟩
    unfold OwnE
    rw [List.length_append, ecs_append]
    exact h3
/-- .. as one step of a region that draws its order. -/
theorem step_append_logv {ops : Array Oper} {o : Oper} {a : Act} {w : World} {K : Act → World → Prop} {Q : Exit → Act → World → Prop} {E : Prop}
    (hg : o.guard = none) (s x : Operand) (hop : o.op = Op.call { callee := Callee.builtin Builtin.append, args := #[s, x], argTypes := #[25, 25] })
    (base : Nat) (lv : Value) (M : List Ent) (hs : a.eval s = lv) (h : LogV base w lv M) (xv : Value) (N : List Ent) (hx : a.eval x = xv) (hsrc : Src Tryz.prog 2 25 xv N.length (ecs N) w) (hN : 0 < N.length)
    (hsz : M.length + N.length ≤ 1099511627776) (hbase : base ≤ w.heap.size)
    (hK : ∀ v' w', OwnE w' base v' (M ++ N) → Below base w w' → K (a.put o.dst v') w') :
    if Region.wanted o (yielded ops a.tmps) = true then Oper.wp Tryz.prog o a w K Q else E := by
  have hw : Region.wanted o (yielded ops a.tmps) = true := by simp [Region.wanted, hg]
  rw [if_pos hw]
  obtain ⟨v', w', hrun, h1, h2⟩ := run_append_logv base w o.type lv M h xv N hsrc hN hsz hbase
  unfold Oper.wp
  simp [execOp, hop, resolve, invoke, builtin, hs, hx, hrun, Result.andThen]
  exact hK v' w' h1 h2
theorem Src.ent1 (w : World) (x : Ent) (t : Int) (d : ByteArray) (ht : x.term = t) (hd : x.data = d) : Src Tryz.prog 2 25 (.slice (some ⟨w.heap.size, 0, none⟩) 1 1) [x].length (ecs [x]) (w.alloc (.cells #[.int .i64 t, .string d] 29)) := by
  subst ht
  subst hd
  refine Src.ofSlice _ Tryz.underlying25 _ 1 1 _ rfl ?_ (ecs_one _)
  intro j v hv
  have hadd : (⟨w.heap.size, 0, none⟩ : Addr).add j = ⟨w.heap.size, j, none⟩ := by unfold Addr.add; split <;> simp_all
  rw [hadd, cell_of_row _ _ _ _ _ _ (heap_alloc_new w _)]
  simpa [ecs] using hv

theorem WRdr.setOther {w : World} {g b o : Nat} {v u : Value} (h : WRdr w g v) (hne : g ≠ b) : WRdr (w.setCell ⟨b, o, none⟩ u) g v := (Below.heap_setCell w ⟨b, o, none⟩ u g hne).trans h
theorem Rd.setOther {B : Nat} {w : World} {e sz n b o e' : Nat} {v u : Value} {xs : List Value} {cs : Array Value} {fz : Nat × Nat} (h : Rd B w e sz v n xs) (hb : w.heap[b]? = some (.cells cs e' fz)) (he : e' ≠ e) (he2 : e = 29 → e' ≠ 28 ∧ e' < 182 := by decide) : Rd B (w.setCell ⟨b, o, none⟩ u) e sz v n xs :=
  h.keepT fun k cur t fz' hkin _ hk => by
    have hne : k ≠ b := by
      rintro rfl
      rw [hb] at hk
      cases hk
      exact hkin.ne he he2 rfl
    exact (Below.heap_setCell w ⟨b, o, none⟩ u k hne).trans hk
theorem heap_set {w : World} {b o e : Nat} {cs : Array Value} (u : Value) (h : w.heap[b]? = some (.cells cs e (0, 0))) : (w.setCell ⟨b, o, none⟩ u).heap[b]? = some (.cells (cs.setIfInBounds o u) e (0, 0)) := heap_setCell_same _ _ _ _ _ _ h
theorem OwnE.extM {w w' : World} {base : Nat} {v : Value} {L : List Ent} {M : List Nat} (h : OwnE w base v L) (hx : Ext M w w') (hm : ∀ k, k ∈ M → ∀ cur fz, w.heap[k]? ≠ some (.cells cur 29 fz)) : OwnE w' base v L := by
  obtain ⟨h1, h2⟩ := h
  refine ⟨h1, h2.imp id ?_⟩
  rintro ⟨g, cap, cur, h3, h4, h5, r⟩
  exact ⟨g, cap, cur, h3, h4, (hx.block g (Array.getElem?_eq_some_iff.1 h5).1 (fun hk => hm g hk _ _ h5)).trans h5, r⟩
theorem LogV.extM {base : Nat} {w w' : World} {lv : Value} {L : List Ent} {M : List Nat} (h : LogV base w lv L) (hx : Ext M w w') (hm : ∀ k, k ∈ M → ∀ cur fz, w.heap[k]? ≠ some (.cells cur 29 fz)) (hm2 : ∀ t, Far t → ∀ k, k ∈ M → ∀ cur fz, w.heap[k]? ≠ some (.cells cur t fz)) : LogV base w' lv L :=
  ⟨RdE.mono (Rd.extM h.1 hx hm (fun _ => hm2)) hx.size, h.2.imp id (fun h => h.extM hx hm)⟩
theorem LogV.setOther {base : Nat} {w : World} {b o e' : Nat} {lv u : Value} {L : List Ent} {cs : Array Value} {fz : Nat × Nat} (h : LogV base w lv L) (hb : w.heap[b]? = some (.cells cs e' fz)) (he : e' ≠ 29) (he2 : e' ≠ 28 ∧ e' < 182 := by decide) : LogV base (w.setCell ⟨b, o, none⟩ u) lv L := by
  refine h.extM (M := [b]) (Ext.setCell (p := ⟨b, o, none⟩) (Ext.refl [b] w) (.inl (List.mem_singleton.2 rfl)) u) (fun k hk cur fz' hc => ?_) (fun t ht k hk cur fz' hc => ?_)
  · rw [List.mem_singleton] at hk
    subst hk
    rw [hb] at hc
    cases hc
    exact he rfl
  · rw [List.mem_singleton] at hk
    subst hk
    rw [hb] at hc
    cases hc
    exact ht.ne he2 rfl
theorem WRdr.not29 {w : World} {g : Nat} {v : Value} (h : WRdr w g v) : ∀ k, k ∈ [g] → ∀ cur fz, w.heap[k]? ≠ some (.cells cur 29 fz) := fun q hq cur fz => by
  rw [List.mem_singleton] at hq
  subst hq
  unfold WRdr at h
  rw [h]
  intro e
  cases e
theorem WRdr.notFar {w : World} {g : Nat} {v : Value} (h : WRdr w g v) : ∀ t, Far t → ∀ k, k ∈ [g] → ∀ cur fz, w.heap[k]? ≠ some (.cells cur t fz) := fun t ht q hq cur fz => by
  rw [List.mem_singleton] at hq
  subst hq
  unfold WRdr at h
  rw [h]
  intro e
  cases e
  exact absurd rfl ht.ne
theorem Ext.thenBelow {M : List Nat} {w0 w w' : World} {B : Nat} (h0 : Ext M w0 w) (h : Below B w w') (hB : w0.heap.size ≤ B) : Ext M w0 w' :=
  ⟨h.os.trans h0.os, h.tape.trans h0.tape, h.output.trans h0.output, Nat.le_trans h0.size h.size, fun k hk hn => (h.block k (by omega)).trans (h0.block k hk hn)⟩
theorem Ext.setSize {M : List Nat} {w w' : World} (h : Ext M w w') : w.heap.size ≤ w'.heap.size := h.size
set_option maxRecDepth 10000 in
set_option maxHeartbeats 1000000 in
theorem apply_calls (sb : Nat) (v : Value) (s0 : Sv) (T V : Int) (cut : Nat) (es : List Ent) (w : World) (hs : SavAt w.heap.size w sb s0) (hv : RdB w.heap.size w v (recBytes T V cut es))
    (hT0 : 0 ≤ T) (hT1 : T ≤ 1152921504606846976) (hV0 : -1 ≤ V) (hV1 : V ≤ 6) (hc : cut ≤ s0.log.length) (hl4 : s0.log.length ≤ 4096) (he4 : es.length ≤ 4096) (hes : ∀ x ∈ es, entOk x = true) :
    Calls Tryz.prog 67 #[.pointer (some ⟨sb, 0, none⟩), v] w fun e w' => e = .returned (.bool true) ∧ SavAt w'.heap.size w' sb ⟨T, V, s0.log.take cut ++ es⟩ ∧ Ext [sb] w w' := by
  obtain ⟨lv, hsb, hlv⟩ := hs
  obtain ⟨a, cap, rfl, hcap, hcap2⟩ := hv.shape
  obtain ⟨a0, cap0, rfl, hcap0, hcap02⟩ := hlv.shape
  have hsl : sb < w.heap.size := (Array.getElem?_eq_some_iff.1 hsb).1
  have hlb := entsBytes_le es hes
  have hlr : (recBytes T V cut es).length ≤ 1099511627776 := by
    have h1 := uint_le T.toNat (by omega)
    have h2 := uint_le (zig V) (by unfold zig; split <;> omega)
    have h3 := uint_le cut (by omega)
    have h4 := uint_le es.length (by omega)
    simp only [recBytes, List.length_append]
    omega
  obtain ⟨n, rfl⟩ := Int.eq_ofNat_of_zero_le hT0
  have hrb : recBytes n V cut es = uint n ++ (uint (zig V) ++ (uint cut ++ (uint es.length ++ entsBytes es))) := by simp [recBytes]
  go_enter Tryz.func67, Tryz.ntmps67
  have hv' : RdB w.heap.size w (.slice a (recBytes n V cut es).length cap) (uint n ++ (uint (zig V) ++ (uint cut ++ (uint es.length ++ entsBytes es)))) := by rw [← hrb]; exact hv
  rw [hrb] at hlr
  have hl1 := hlr
  simp only [List.length_append] at hl1
  generalize (recBytes n V cut es).length = LL at hv' hcap ⊢
  clear hv hrb
  go_wp2_with fail
  have hr0 : WRdr (w.alloc (.cells #[.slice a LL cap, .bool true] 115)) w.heap.size (.slice a LL cap) := heap_alloc_new w _
  have hx0 : Ext [] w (w.alloc (.cells #[.slice a LL cap, .bool true] 115)) := (Ext.refl [] w).alloc _
  have hz0 : (w.alloc (.cells #[.slice a LL cap, .bool true] 115)).heap.size = w.heap.size + 1 := by simp
  generalize w.alloc (.cells #[.slice a LL cap, .bool true] 115) = W0 at hr0 hx0 hz0 ⊢
  have HZ0 := Lib.hid hz0
  clear hz0
  have hgs : w.heap.size ≠ sb := by omega
  have hB0 : w.heap.size ≤ W0.heap.size := hx0.size
  refine (num_calls w.heap.size w.heap.size _ _ _ n 1152921504606846976 (by omega) (by omega) W0 hr0 (hv'.ext hx0) hB0 rfl hlr).mono ?_
  rintro e w1 ⟨rfl, v1, hr1, hv1, hx1⟩
  have X1 : Ext [sb] w w1 := (hx0.mono (by simp)).cut hx1 (by simp)
  have k1 : w1.heap[sb]? = some (.cells #[.int .i64 s0.term, .int .i64 s0.vote, .slice a0 s0.log.length cap0] 27 (0, 0)) := (hx1.block sb (by omega) (by simpa using hgs.symm)).trans (hx0.heap hsb)
  have L1 : RdE w.heap.size w1 (.slice a0 s0.log.length cap0) s0.log := Rd.extM (hlv.ext hx0) hx1 (fun q hq cur fz => by simp at hq; subst hq; unfold WRdr at hr0; rw [hr0]; intro e; cases e) (fun _ => WRdr.notFar hr0)
  have c0 : w1.cell? ⟨sb, 0, none⟩ = some (.int .i64 s0.term) := by rw [cell_of_row _ _ _ _ _ _ k1]; rfl
  have f0 : w1.frozen? ⟨sb, 0, none⟩ = false := frozen_of_row _ _ _ _ _ k1
  go_wp2_with fail
  have k1' := heap_set (o := 0) (.int .i64 (n : Int)) k1
  have hr1' := hr1.setOther (b := sb) (o := 0) (u := .int .i64 (n : Int)) hgs
  have hv1' : RdB w.heap.size (w1.setCell ⟨sb, 0, none⟩ (.int .i64 (n : Int))) v1 _ := Rd.setOther hv1 k1 (by decide)
  have L1' : RdE w.heap.size (w1.setCell ⟨sb, 0, none⟩ (.int .i64 (n : Int))) (.slice a0 s0.log.length cap0) s0.log := Rd.setOther L1 k1 (by decide)
  have X1' : Ext [sb] w (w1.setCell ⟨sb, 0, none⟩ (.int .i64 (n : Int))) := X1.setCell (p := ⟨sb, 0, none⟩) (.inl (by simp)) _
  generalize w1.setCell ⟨sb, 0, none⟩ (.int .i64 (n : Int)) = W1 at k1' hr1' hv1' L1' X1' ⊢
  clear k1 hr1 hv1 L1 X1 c0 f0 hx1 hv' hlv hr0
  have hl2 : (uint (zig V) ++ (uint cut ++ (uint es.length ++ entsBytes es))).length ≤ 1099511627776 := by simp only [List.length_append]; omega
  have z1 := X1'.size
  refine (vote_calls w.heap.size w.heap.size _ _ _ V hV0 hV1 W1 hr1' hv1' z1 rfl hl2).mono ?_
  rintro e w2 ⟨rfl, v2, hr2, hv2, hx2⟩
  have X2 : Ext [sb] w w2 := X1'.cut hx2 (by simp)
  have k2 : w2.heap[sb]? = some (.cells #[.int .i64 (n : Int), .int .i64 s0.vote, .slice a0 s0.log.length cap0] 27 (0, 0)) := (hx2.block sb (by omega) (by simpa using hgs.symm)).trans k1'
  have hg115 : ∀ q, q ∈ [w.heap.size] → ∀ cur fz, W1.heap[q]? ≠ some (.cells cur 29 fz) := fun q hq cur fz => by simp at hq; subst hq; unfold WRdr at hr1'; rw [hr1']; intro e; cases e
  have L2 : RdE w.heap.size w2 (.slice a0 s0.log.length cap0) s0.log := Rd.extM L1' hx2 hg115 (fun _ => WRdr.notFar hr1')
  have c1 : w2.cell? ⟨sb, 1, none⟩ = some (.int .i64 s0.vote) := by rw [cell_of_row _ _ _ _ _ _ k2]; rfl
  have f1 : w2.frozen? ⟨sb, 1, none⟩ = false := frozen_of_row _ _ _ _ _ k2
  have k2' := heap_set (o := 1) (.int .i64 V) k2
  have hr2' := hr2.setOther (b := sb) (o := 1) (u := .int .i64 V) hgs
  have hv2' : RdB w.heap.size (w2.setCell ⟨sb, 1, none⟩ (.int .i64 V)) v2 _ := Rd.setOther hv2 k2 (by decide)
  have L2' : RdE w.heap.size (w2.setCell ⟨sb, 1, none⟩ (.int .i64 V)) (.slice a0 s0.log.length cap0) s0.log := Rd.setOther L2 k2 (by decide)
  have X2' : Ext [sb] w (w2.setCell ⟨sb, 1, none⟩ (.int .i64 V)) := X2.setCell (p := ⟨sb, 1, none⟩) (.inl (by simp)) _
  have c2 : (w2.setCell ⟨sb, 1, none⟩ (.int .i64 V)).cell? ⟨sb, 2, none⟩ = some (.slice a0 s0.log.length cap0) := by rw [cell_of_row _ _ _ _ _ _ k2']; rfl
  clear k1' hr1' hv1' L1' X1' hg115 hx2
  go_wp2_with fail
  generalize w2.setCell ⟨sb, 1, none⟩ (.int .i64 V) = W2 at k2' hr2' hv2' L2' X2' c2 ⊢
  clear k2 hr2 hv2 L2 X2 c1 f1
  have z2 := X2'.size
  have hl3 : (uint cut ++ (uint es.length ++ entsBytes es)).length ≤ 1099511627776 := by simp only [List.length_append]; omega
  refine (num_calls w.heap.size w.heap.size _ _ _ cut s0.log.length (by omega) hc W2 hr2' hv2' z2 rfl hl3).mono ?_
  rintro e w3 ⟨rfl, v3, hr3, hv3, hx3⟩
  have X3 : Ext [sb] w w3 := X2'.cut hx3 (by simp)
  have k3 := (hx3.block sb (by omega) (by simpa using hgs.symm)).trans k2'
  have L3 : RdE w.heap.size w3 (.slice a0 s0.log.length cap0) s0.log := Rd.extM L2' hx3 (fun q hq cur fz => by simp at hq; subst hq; unfold WRdr at hr2'; rw [hr2']; intro e; cases e) (fun _ => WRdr.notFar hr2')
  clear k2' hr2' hv2' L2' X2' c2 hx3
  go_wp2_with fail
  have z3 := X3.size
  have hl4' : (uint es.length ++ entsBytes es).length ≤ 1099511627776 := by simp only [List.length_append]; omega
  refine (num_calls w.heap.size w.heap.size _ _ _ es.length 4096 (by omega) he4 w3 hr3 hv3 z3 rfl hl4').mono ?_
  rintro e w4 ⟨rfl, v4, hr4, hv4, hx4⟩
  have X4 : Ext [sb] w w4 := X3.cut hx4 (by simp)
  have k4 := (hx4.block sb (by omega) (by simpa using hgs.symm)).trans k3
  have L4 : RdE w.heap.size w4 (.slice a0 s0.log.length cap0) s0.log := Rd.extM L3 hx4 (fun q hq cur fz => by simp at hq; subst hq; unfold WRdr at hr3; rw [hr3]; intro e; cases e) (fun _ => WRdr.notFar hr3)
  clear k3 hr3 hv3 L3 X3 hx4
  obtain ⟨a5, hs5, L5⟩ := RdE.slice_hm rfl L4 cut hc
  have hs5' := fun W => hs5 (cut : Int) (cut : Int) rfl rfl W
  have c2 : w4.cell? ⟨sb, 2, none⟩ = some (.slice a0 s0.log.length cap0) := by rw [cell_of_row _ _ _ _ _ _ k4]; rfl
  have f2 : w4.frozen? ⟨sb, 2, none⟩ = false := frozen_of_row _ _ _ _ _ k4
  clear hs5
  go_wp2_with fail
  have k5 := heap_set (o := 2) (.slice a5 cut cut) k4
  have hr5 := hr4.setOther (b := sb) (o := 2) (u := .slice a5 cut cut) hgs
  have hv5 : RdB w.heap.size (w4.setCell ⟨sb, 2, none⟩ (.slice a5 cut cut)) v4 _ := Rd.setOther hv4 k4 (by decide)
  have z4 := X4.size
  have hcl : (s0.log.take cut).length = cut := List.length_take_of_le hc
  have L5' : LogV w4.heap.size (w4.setCell ⟨sb, 2, none⟩ (.slice a5 cut cut)) (.slice a5 cut cut) (s0.log.take cut) := LogV.setOther ⟨RdE.mono L5 z4, .inl ⟨a5, by rw [hcl]⟩⟩ k4 (by decide)
  have X5 : Ext [sb] w (w4.setCell ⟨sb, 2, none⟩ (.slice a5 cut cut)) := X4.setCell (p := ⟨sb, 2, none⟩) (.inl (by simp)) _
  have hz5 : w4.heap.size ≤ (w4.setCell ⟨sb, 2, none⟩ (.slice a5 cut cut)).heap.size := by simp [go_sem]
  have hB5 : w.heap.size < w4.heap.size := Nat.lt_of_lt_of_le hr4.lt (Nat.le_refl _)
  generalize w4.setCell ⟨sb, 2, none⟩ (.slice a5 cut cut) = W5 at k5 hr5 hv5 L5' X5 hz5 ⊢
  generalize w4.heap.size = B5 at L5' hz5 hB5
  clear k4 hr4 hv4 L4 L5 X4 hs5' c2 f2 hlr hl1 hl2 hl3 hl4' z1 z2 z3 z4
  go_loopw [8, 9] (fun i _ wr => ∃ (k : Nat) (v lv : Value), k ≤ es.length ∧ i = .int .u64 k ∧ WRdr wr w.heap.size v ∧ RdB w.heap.size wr v (entsBytes (es.drop k)) ∧ wr.heap[sb]? = some (.cells #[.int .i64 (n : Int), .int .i64 V, lv] 27 (0, 0)) ∧ LogV B5 wr lv (s0.log.take cut ++ es.take k) ∧ Ext [sb] w wr ∧ B5 ≤ wr.heap.size) (fun i _ wr => (es.length - intOf i).toNat)
  case atStart => exact ⟨0, v4, .slice a5 cut cut, by omega, rfl, hr5, by simpa using hv5, k5, by simpa using L5', X5, hz5⟩
  case round =>
    obtain ⟨k, v, lv, hk, rfl, hr, hvb, ksb, hlog, hX, hz⟩ := hrel
    have p1 := hr.c1
    by_cases hk2 : k < es.length
    · have hok := entOk_parts (hes es[k] (List.getElem_mem hk2))
      have hd : es.drop k = es[k] :: es.drop (k + 1) := List.drop_eq_getElem_cons hk2
      have ht : es.take (k + 1) = es.take k ++ [es[k]] := List.take_succ_eq_append_getElem hk2
      have hlk := entsBytes_le (es.drop k) (fun x hx => hes x (List.mem_of_mem_drop hx))
      rw [List.length_drop] at hlk
      generalize es[k] = x at hok hd ht
      obtain ⟨hx1, hx2, hx3⟩ := hok
      obtain ⟨t, hxt⟩ := Int.eq_ofNat_of_zero_le (show 0 ≤ x.term by omega)
      rw [hd, entsBytes_cons] at hvb hlk
      have hxb : x.bytes = uint t ++ (uint x.data.size ++ x.data.data.toList) := by simp [Ent.bytes, hxt]
      rw [hxb] at hvb hlk
      simp only [List.append_assoc] at hvb hlk
      have HT := Lib.hid ht
      have HX := Lib.hid hxt
      have htb : t ≤ 1152921504606846976 := by omega
      have hlk2 := hlk
      simp only [List.length_append] at hlk2
      clear ht hxt hd hxb
      go_wp2_with fail
      refine (num_calls w.heap.size w.heap.size _ _ _ t 1152921504606846976 htb htb wr hr hvb hX.size rfl (by omega)).mono ?_
      rintro e w1 ⟨rfl, v1, hr1, hv1, hx1'⟩
      have X1 : Ext [sb] w w1 := hX.cut hx1' (by simp)
      have ks1 := (hx1'.block sb (by have := hX.size; omega) (by simpa using hgs.symm)).trans ksb
      have lg1 := hlog.extM hx1' hr.not29 hr.notFar
      have zz1 := hx1'.size
      clear ksb hlog hr hvb hx1' hX
      go_upto_region 11 with fail
      have hr1d : WRdr w1.drew w.heap.size v1 := hr1
      have hv1d : RdB w.heap.size w1.drew v1 (uint x.data.size ++ (x.data.data.toList ++ entsBytes (es.drop (k + 1)))) := hv1.ext ((Ext.refl [] w1).drew)
      have htx := text_calls w.heap.size w.heap.size v1 _ (entsBytes (es.drop (k + 1))) x.data (by omega) w1.drew hr1d hv1d X1.size rfl (by simp only [List.length_append]; omega)
      have HTX := Lib.hid htx
      clear htx
      have d2 : w1.cell? ⟨sb, 2, none⟩ = some lv := by rw [cell_of_row _ _ _ _ _ _ ks1]; rfl
      go_region_law (first
          | (go_simp; go_at_call 83; refine HTX.out.mono ?_
             rintro e w2 ⟨rfl, v2, hr2, hv2, hx2⟩
             have ks2 := (hx2.block sb (Nat.lt_of_lt_of_le hsl X1.size) (by simpa using hgs.symm)).trans ks1
             have d2' : w2.cell? ⟨sb, 2, none⟩ = some lv := by rw [cell_of_row _ _ _ _ _ _ ks2]; rfl
             have lg2 : LogV B5 w2 lv (s0.log.take cut ++ es.take k) := LogV.extM (LogV.ext lg1 ((Ext.refl [] w1).drewN 1)) hx2 (WRdr.not29 hr1) (WRdr.notFar hr1)
             have hsw : sb < w2.heap.size := Nat.lt_of_lt_of_le (Nat.lt_of_lt_of_le hsl X1.size) hx2.size
             have hsB : sb < B5 := by omega
             have zw2 : B5 ≤ w2.heap.size := Nat.le_trans (Nat.le_trans hz zz1) hx2.size)
          | (refine step_append_logv rfl _ _ rfl B5 lv (s0.log.take cut ++ es.take k) rfl (lg2.ext ((Ext.refl [] _).alloc _)) _ [x] rfl (Src.ent1 _ x _ _ HX.out rfl) (by simp) (by simp only [List.length_append, List.length_take, List.length_cons, List.length_nil]; omega) (Nat.le_trans zw2 ((Ext.refl [] _).alloc _).size) ?_
             intro v3 w3 o3 b3
             obtain ⟨a3, cap3, rfl, hq1, hq2⟩ := o3.rd.shape
             generalize (s0.log.take cut ++ es.take k ++ [x]).length = N3 at o3 hq1 ⊢
             have d3 : w3.cell? ⟨sb, 2, none⟩ = some lv := (b3.cell (p := ⟨sb, 2, none⟩) hsB).trans (cell_push d2' _ hsw)
             have g3 : w3.frozen? ⟨sb, 2, none⟩ = false := (b3.frozen (p := ⟨sb, 2, none⟩) hsB).trans (frozen_of_row _ _ _ _ _ ((((Ext.refl [] w2).alloc _).heap ks2)))))
      all_goals
        have hgB : w.heap.size < B5 := hB5
        have ka := ((Ext.refl [] w2).alloc (.cells #[.int .i64 t, .string x.data] 29)).heap ks2
        have k3 := (b3.block _ hsB).trans ka
        have k3' := heap_set (o := 2) (.slice a3 N3 cap3) k3
        have r3 : WRdr w3 w.heap.size v2 := (b3.block _ hgB).trans (((Ext.refl [] w2).alloc (.cells #[.int .i64 t, .string x.data] 29)).heap hr2)
        have r3' := r3.setOther (b := sb) (o := 2) (u := .slice a3 N3 cap3) hgs
        have v3' : RdB w.heap.size (w3.setCell ⟨sb, 2, none⟩ (.slice a3 N3 cap3)) v2 _ := Rd.setOther (Rd.below (hv2.ext ((Ext.refl [] w2).alloc (.cells #[.int .i64 t, .string x.data] 29))) (b3.mono (by omega))) k3 (by decide)
        have l3' := LogV.setOther (u := .slice a3 N3 cap3) (o := 2) (LogV.of_own o3) k3 (by decide)
        have X3 : Ext [sb] w (w3.setCell ⟨sb, 2, none⟩ (.slice a3 N3 cap3)) := ((((X1.trans ((Ext.refl [sb] w1).drewN 1)).cut hx2 (by simp)).alloc (.cells #[.int .i64 t, .string x.data] 29)).thenBelow b3 (by omega)).setCell (p := ⟨sb, 2, none⟩) (.inl (by simp)) _
        have z3' : B5 ≤ (w3.setCell ⟨sb, 2, none⟩ (.slice a3 N3 cap3)).heap.size := by exact Nat.le_trans zw2 (Nat.le_trans (Nat.le_trans ((Ext.refl [] w2).alloc _).size b3.size) (by simp [go_sem]))
      all_goals
        generalize (w3.setCell ⟨sb, 2, none⟩ (.slice a3 N3 cap3)) = W9 at k3' r3' v3' l3' X3 z3' ⊢
        have hkn : IntKind.u64.wrap ((k : Int) + 1) = ((k + 1 : Nat) : Int) := by unfold IntKind.wrap; simp [IntKind.signed, IntKind.bits]; omega
        go_wp2_with fail
        refine ⟨⟨k + 1, v2, .slice a3 N3 cap3, by omega, by congr 1, r3', v3', k3', by rw [HT.out, ← List.append_assoc]; exact l3', X3, z3'⟩, ?_⟩
        simp only [intOf]
        omega
    · obtain rfl : k = es.length := by omega
      rw [List.drop_length, show entsBytes [] = [] from rfl] at hvb
      simp only [List.take_length] at hlog
      obtain ⟨v6, cap6, rfl, -, -⟩ := hvb.shape
      have p0 := hr.c0
      simp only [List.length_nil] at p0
      go_wp2_with fail
      go_ret
      exact ⟨rfl, ⟨lv, ksb, hlog.1⟩, hX⟩
end Go.Proofs.YtipbfmalacnmkaaGreat
