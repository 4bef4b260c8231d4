/- A range over a function whose rounds all go on: the iterator may tell the body what lies in memory behind the values it hands over. No condition. -/
import Derived.Test.YtipbfmalacnmkaaGreatBase
import Derived.RangeFuncNested
import Derived.RangeFuncBound
import Derived.RangeFuncCalls
import Derived.RangeFuncLeaves
import Derived.OwnWalkIn
namespace Go.Proofs.YtipbfmalacnmkaaGreat
open Go.RowKit

theorem Ext.putObj {M : List Nat} {w w' : World} (h : Ext M w w') {l : Nat} (hl : l ∈ M ∨ w.heap.size ≤ l) (o : Obj) : Ext M w (w'.putObj l o) :=
  ⟨h.os, h.tape, h.output, by have := h.size; simpa [World.putObj] using this, fun k hk hn => by
    rw [World.putObj_heap_other (fun e => by rcases hl with hl | hl; exact hn (e ▸ hl); omega)]; exact h.block k hk hn⟩
/-- Old blocks that are no cells, from B on, may turn; nothing else that lay there. -/
def Grow (B : Nat) (A A' : World) : Prop := ∃ M : List Nat, (∀ k, k ∈ M → B ≤ k ∧ ∃ o : Obj, A.heap[k]? = some o ∧ o.isCells = false) ∧ Ext M A A'
theorem Grow.of_ext {B : Nat} {A A' : World} (h : Ext [] A A') : Grow B A A' := ⟨[], by simp, h⟩
theorem Grow.putObj {B l : Nat} {A : World} {o : Obj} (o' : Obj) (hB : B ≤ l) (hl : A.heap[l]? = some o) (ho : o.isCells = false) : Grow B A (A.putObj l o') :=
  ⟨[l], by simpa using ⟨hB, o, hl, ho⟩, (Ext.refl [l] A).putObj (.inl (by simp)) o'⟩

/-- Every round goes on. -/
def goesOn (R : World → Prop) : Exit → Act → World → Prop
  | .normal, _, w => R w
  | .ret, _, _ => False
  | .exit _, _, _ => False
  | .goto _, _, _ => False
  | .panic _, _, _ => False
  | .outgrown, _, _ => False

/-- The iterator's word: for every body that goes on and keeps all but M: the values come in the order of xs, each as Rel says. -/
def SeqAll {α β : Type} (n : Nat) (P : Program) (gf : Nat) (lb : Array Value) (encs : α → Array Value) (xs : List β) (Rel : β → α → World → Prop) (M : List Nat) (w : World) : Prop :=
  ∀ (l : Nat) (J : List β → World → Prop) (W : World), Ext [] w W → (∀ s A B, J s A → Ext [] A B → J s B) →
    (∀ pre y x W1, J pre W1 → Rel y x W1 → (pre ++ [y]) <+: xs → YieldAt Fence.wide (n - 1) P l (encs x) W1 fun e W' => e = .returned (.bool true) ∧ J (pre ++ [y]) W' ∧ Ext M W1 W') →
    J [] W → CallsIn Fence.wide n P gf (#[.func (.yield l) #[] #[]] ++ lb) W fun e W' => (∃ v, e = .returned v) ∧ J xs W'

theorem range_all {α β : Type} {P : Program} {n : Nat} (h1 : 1 ≤ n) {g : Operand} {ps : Array Tmp} {assign body : Code} {Q : Exit → Act → World → Prop} {a : Act} {w : World}
    {gf : Nat} {lb : Array Value} (hg : a.eval g = .func (.func gf) #[] lb) (eg : ∀ args w, (callFunc gf args).run P w = .ok (.enter gf args) w)
    {encs : α → Array Value} {xs : List β} {Rel : β → α → World → Prop} (M0 : List Nat) (hM0 : ∀ k, k ∈ M0 → k < w.heap.size) (hseq : ∀ l, w.heap.size < l → SeqAll (n - 1) P gf lb encs xs Rel (l :: M0) w) (hps : ∀ x, (encs x).size = ps.size)
    (I : List β → World → Prop) (hI : ∀ s A A', I s A → Grow w.heap.size A A' → I s A') (h0 : I [] w) (a₁ : α → Act)
    (hassign : ∀ (l : Nat) (x : α) (W : World) (K : Act → World → Prop), K (a₁ x) W →
      assign.wpIn (Fence.wide.inRound l) (n - 1 - 1) P (Exit.then K (fun _ _ _ => False)) { tmps := (ps.zip (encs x)).foldl (fun t (p, v) => t.setIfInBounds p v) a.tmps, defers := [] } W)
    (hRel : ∀ y x A l o o', Rel y x A → A.heap[l]? = some o → o.isCells = false → Rel y x (A.putObj l o'))
    (hbody : ∀ (l : Nat) (pre : List β) (y : β) (x : α) (W : World), I pre W → Rel y x W → (pre ++ [y]) <+: xs → body.wpIn (Fence.wide.inRound l) (n - 1 - 1) P (goesOn fun W' => Ext M0 W W' ∧ I (pre ++ [y]) W') (a₁ x) W)
    (hdone : ∀ (D : Nat) (W : World), w.heap.size ≤ D → I xs W → W.heap[D]? = some (.deferred (some [])) → Q .normal { a with defers := { target := .collected D, args := #[] } :: a.defers } W) :
    (Code.rangeFunc g ps assign body).wpIn Fence.wide n P Q a w := by
  refine wpIn_rangeFunc fun fn hfn => ?_
  generalize hrec : (fun (st : LoopState) (pe : Option Code) => ({ state := st, pending := pe, fn := fn, tmps := a.tmps, params := ps, assign := assign, body := body, defers := w.heap.size } : Loop)) = rec
  have X0 : Ext [] w ((w.alloc (.deferred (some []))).alloc (.loop (rec .ready none))) := ((Ext.refl [] w).alloc _).alloc _
  have hL : ((w.alloc (.deferred (some []))).alloc (.loop (rec .ready none))).heap[w.heap.size + 1]? = some (.loop (rec .ready none)) := by
    have := World.alloc_heap_new (w.alloc (.deferred (some []))) (.loop (rec .ready none)); rwa [World.size_alloc] at this
  have hD : ((w.alloc (.deferred (some []))).alloc (.loop (rec .ready none))).heap[w.heap.size]? = some (.deferred (some [])) :=
    (Below.heap_alloc _ _ _ (by simp)).trans (World.alloc_heap_new w _)
  have hent := run_enterLoop_outer (P := P) (w := w) fn a.tmps ps assign body
  generalize hW : (w.alloc (.deferred (some []))).alloc (.loop (rec .ready none)) = W1 at X0 hL hD
  refine ⟨w.heap.size + 1, [{ target := .collected w.heap.size, args := #[] }], W1, { target := .fn (.func gf) lb, args := #[.func (.yield (w.heap.size + 1)) #[] #[]] }, W1, gf,
    #[.func (.yield (w.heap.size + 1)) #[] #[]] ++ lb, W1, ?_, ?_, fun _ _ => trivial, ?_, fun _ => h1, ?_⟩
  · rw [← hW, ← hrec]; exact hent
  · simp only [resolve, hg]
    simp [go_sem]
  · simp [invoke, go_sem, eg]
  · refine (hseq (w.heap.size + 1) (by omega) (w.heap.size + 1)
      (fun pre W => I pre W ∧ W.heap[w.heap.size + 1]? = some (.loop (rec .ready none)) ∧ W.heap[w.heap.size]? = some (.deferred (some []))) W1 X0
      (fun s A B hs hx => ⟨hI s A B hs.1 (.of_ext hx), hx.heap hs.2.1, hx.heap hs.2.2⟩) ?_ ⟨hI _ _ _ h0 (.of_ext X0), hL, hD⟩).mono ?_
    · rintro pre y x W ⟨hi, hl, hd⟩ hrel hpre
      have hlt : w.heap.size + 1 < W.heap.size := (Array.getElem?_eq_some_iff.1 hl).1
      have hy := run_yield (P := P) (args := encs x) hl (by rw [← hrec]; exact hps x)
      refine ⟨fn, _, assign, body, by rw [← hrec] at hy; exact hy, roundIn_of_wpIn hfn (hassign _ x W _ ⟨_, run_beginRound hl (by rw [← hrec]), ?_⟩)⟩
      generalize hr2 : ({ rec .ready none with state := .busy } : Loop) = r2
      have hl2 : (W.putObj (w.heap.size + 1) (.loop r2)).heap[w.heap.size + 1]? = some (.loop r2) := World.putObj_heap_same hlt
      have hd2 : (W.putObj (w.heap.size + 1) (.loop r2)).heap[w.heap.size]? = some (.deferred (some [])) := (World.putObj_heap_other (by omega)).trans hd
      refine wpIn_mono (hbody _ pre y x _ (hI _ _ _ hi (.putObj _ (by omega) hl rfl)) (hRel _ _ _ _ _ _ hrel hl rfl) hpre) ?_
      rintro e a3 W3 hp
      cases e <;> try exact hp.elim
      obtain ⟨hx3, hi3⟩ := hp
      have hl3 := (hx3.block (w.heap.size + 1) (Array.getElem?_eq_some_iff.1 hl2).1 (fun h => by have := hM0 _ h; omega)).trans hl2
      have hd3 := (hx3.block w.heap.size (Array.getElem?_eq_some_iff.1 hd2).1 (fun h => by have := hM0 _ h; omega)).trans hd2
      have hend := run_endRound (P := P) none hl3
      have hr3 : ({ r2 with state := if (none : Option Code).isNone then .ready else .done, pending := none } : Loop) = rec .ready none := by rw [← hr2, ← hrec]; rfl
      rw [hr3] at hend
      refine ⟨_, _, hend, rfl, ⟨hI _ _ _ hi3 (.putObj _ (by omega) hl3 rfl), World.putObj_heap_same (Array.getElem?_eq_some_iff.1 hl3).1, (World.putObj_heap_other (by omega)).trans hd3⟩, ?_⟩
      exact (((Ext.refl _ W).putObj (.inl (by simp)) _).cut hx3 (fun k hk => .inl (List.mem_cons_of_mem _ hk))).putObj (.inl (by simp)) _
    · rintro e W2 ⟨⟨v, rfl⟩, hi, hl, hd⟩
      have hend := run_endLoop (P := P) hl (by rw [← hrec]; simp)
      have hp0 : (rec .ready none).pending = none := by rw [← hrec]
      refine ⟨(rec .ready none).pending, _, hend, ?_⟩
      rw [hp0]
      exact (hdone w.heap.size _ (Nat.le_refl _) (hI _ _ _ hi (.putObj _ (by omega) hl rfl)) ((World.putObj_heap_other (by omega)).trans hd))

theorem wpListIn_app {F : Fence} {n : Nat} {ops : Array Oper} {rest : List Oper} {o : Oper} {a : Act} {Q : Exit → Act → World → Prop} (w : World) (hgd : o.guard = none) (s x : Operand) (tx : TypeId)
    (ho : o.op = .call { callee := .builtin .append, args := #[s, x], argTypes := #[30, tx] }) (base : Nat) (v : Value) (l : List UInt8) (hs : a.eval s = v) (hown : OwnB w base v l)
    (xv : Value) (m : List UInt8) (hx : a.eval x = xv) (hsrc : Src Tryz.prog 1 tx xv m.length (bvs m) w) (hsz : l.length + m.length ≤ 140737488355328) (hbase : base ≤ w.heap.size)
    (h : ∀ v' w', OwnB w' base v' (l ++ m) → w.grownBy w' v.ownBlock → wpListIn F n Tryz.prog ops Q rest (a.put o.dst v') w') : wpListIn F n Tryz.prog ops Q (o :: rest) a w := by
  obtain ⟨i, hi, hz, h1, h2⟩ := info_parts Tryz.infoB
  obtain ⟨v', w', hr, hown', hg⟩ := run_append_own_src (P := Tryz.prog) w base 30 tx o.type 5 i _ 1 1 Tryz.underlying30 hi hz h1 h2 rfl v l.length (bvs l) hown xv m.length (bvs m) hsrc (by unfold maxLen; omega) (by omega) hbase
  refine wpListIn_plain hgd fun K hK => ?_
  unfold Oper.wpIn
  refine ⟨?_, ?_⟩
  · simp [Oper.about, ho, resolve, Target.leads, Sem.run_pure]
  · rw [Oper.semAt_plain F _ _ (by rw [ho]; intro c hc'; cases hc')]
    simp only [execOp, ho, resolve, invoke, builtin, Sem.run_bind, Sem.run_pure, Result.andThen_ok, List.map_toArray, List.map_cons, List.map_nil, hs, hx, hr]
    refine hK _ _ (h v' w' ?_ hg)
    unfold OwnB
    rw [List.length_append, bvs_append]
    exact hown'
end Go.Proofs.YtipbfmalacnmkaaGreat
