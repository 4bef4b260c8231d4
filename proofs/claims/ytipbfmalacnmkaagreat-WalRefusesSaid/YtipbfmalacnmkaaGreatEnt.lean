/- Entries in memory, and what may, Clone, Equal, Copy, Same, May, Weight and Nothing return. -/
import Derived.Test.YtipbfmalacnmkaaGreatBase
import Derived.Test.YtipbfmalacnmkaaGreatSpec
import Derived.Deep.QuietTactic
import Derived.BigQuiet
namespace Go.Proofs.YtipbfmalacnmkaaGreat
open Go.RowKit

/-- The cells of entries. -/
def ecs : List Ent → List Value
  | [] => []
  | x :: l => .int .i64 x.term :: .string x.data :: ecs l
theorem ecs_length (L : List Ent) : (ecs L).length = L.length * 2 := by
  induction L with
  | nil => rfl
  | cons x L ih => simp [ecs, ih]; omega
theorem ecs_append (L M : List Ent) : ecs (L ++ M) = ecs L ++ ecs M := by
  induction L with
  | nil => rfl
  | cons x L ih => simp [ecs, ih]
theorem ecs_one (L : List Ent) : ∀ u ∈ ecs L, u.oneCell' = true := by
  induction L with
  | nil => intro u h; cases h
  | cons x L ih =>
    intro u h
    simp only [ecs, List.mem_cons] at h
    rcases h with rfl | rfl | h
    · rfl
    · rfl
    · exact ih u h
theorem ecs_get (L : List Ent) : ∀ (j : Nat) (h : j < L.length), (ecs L)[j * 2]? = some (.int .i64 L[j].term) ∧ (ecs L)[j * 2 + 1]? = some (.string L[j].data) := by
  induction L with
  | nil => intro j h; simp at h
  | cons x L ih =>
    intro j h
    cases j with
    | zero => exact ⟨rfl, rfl⟩
    | succ j =>
      have := ih j (by simp at h; omega)
      rw [show (j + 1) * 2 = j * 2 + 1 + 1 by omega]
      simpa [ecs] using this
theorem ecs_drop (L : List Ent) : ∀ k, ecs (L.drop k) = (ecs L).drop (k * 2) := by
  induction L with
  | nil => intro k; simp [ecs]
  | cons x L ih =>
    intro k
    cases k with
    | zero => simp
    | succ k => rw [show (k + 1) * 2 = k * 2 + 1 + 1 by omega]; simp [ecs, ih]
theorem ecs_take (L : List Ent) : ∀ k, ecs (L.take k) = (ecs L).take (k * 2) := by
  induction L with
  | nil => intro k; simp [ecs]
  | cons x L ih =>
    intro k
    cases k with
    | zero => simp [ecs]
    | succ k => rw [show (k + 1) * 2 = k * 2 + 1 + 1 by omega]; simp [ecs, ih]

def RdE (B : Nat) (w : World) (v : Value) (L : List Ent) : Prop := Rd B w 29 2 v L.length (ecs L)
def OwnE (w : World) (base : Nat) (v : Value) (L : List Ent) : Prop := w.ownsRow base 29 2 v L.length (ecs L)
theorem RdE.src {B : Nat} {w : World} {v : Value} {L : List Ent} (h : RdE B w v L) : Src Tryz.prog 2 25 v L.length (ecs L) w := Rd.src Tryz.underlying25 h (ecs_one L)
theorem RdE.mono {B B' : Nat} {w : World} {v : Value} {L : List Ent} (h : RdE B w v L) (hB : B ≤ B') : RdE B' w v L := Rd.mono h hB
theorem RdE.below {B : Nat} {w w' : World} {v : Value} {L : List Ent} (h : RdE B w v L) (hx : Below B w w') : RdE B w' v L := Rd.below h hx
theorem RdE.ext {B : Nat} {w w' : World} {v : Value} {L : List Ent} (h : RdE B w v L) (hx : Ext [] w w') : RdE B w' v L := Rd.ext h hx
theorem RdE.nil (B : Nat) (w : World) : RdE B w (.slice none 0 0) [] := Rd.nil B w 29 2
theorem OwnE.nil (w : World) (base : Nat) : OwnE w base (.slice none 0 0) [] := World.ownsRow_nil w base 29 2
theorem OwnE.rd {w : World} {base : Nat} {v : Value} {L : List Ent} (h : OwnE w base v L) : RdE w.heap.size w v L := Rd.of_own h
theorem OwnE.lt {w : World} {base : Nat} {v : Value} {L : List Ent} (h : OwnE w base v L) : ∀ k, v.ownBlock = some k → base ≤ k ∧ k < w.heap.size := World.ownsRow.lt h
theorem OwnE.lower {w : World} {base base' : Nat} {v : Value} {L : List Ent} (h : OwnE w base v L) (hb : base' ≤ base) : OwnE w base' v L := by
  obtain ⟨h1, h2⟩ := h
  refine ⟨h1, h2.imp id ?_⟩
  rintro ⟨g, cap, cur, h3, h4, r⟩
  exact ⟨g, cap, cur, h3, by omega, r⟩
theorem OwnE.ext {w w' : World} {base : Nat} {v : Value} {L : List Ent} (h : OwnE w base v L) (hx : Ext [] w w') : OwnE w' base v L := by
  obtain ⟨h1, h2⟩ := h
  refine ⟨h1, h2.imp id ?_⟩
  rintro ⟨g, cap, cur, h3, h4, h5, r⟩
  exact ⟨g, cap, cur, h3, h4, hx.heap h5, r⟩
theorem OwnE.alloc {w : World} {base : Nat} {v : Value} {L : List Ent} (h : OwnE w base v L) (o : Obj) : OwnE (w.alloc o) base v L := World.ownsRow.alloc h o
/-- An entry's two cells. -/
theorem RdE.cell {B : Nat} {w : World} {a : Option Addr} {cap : Nat} {L : List Ent} (h : RdE B w (.slice a L.length cap) L) (hn : 0 < L.length) :
    ∃ b off, a = some ⟨b, off, none⟩ ∧ b < B ∧ b < w.heap.size ∧ ∀ j (hj : j < L.length), w.cell? ⟨b, off + j * 2, none⟩ = some (.int .i64 L[j].term) ∧ w.cell? ⟨b, off + j * 2 + 1, none⟩ = some (.string L[j].data) := by
  obtain ⟨b, off, rfl, h1, h2, h3⟩ := Rd.cell h hn
  refine ⟨b, off, rfl, h1, h2, fun j hj => ?_⟩
  have := ecs_get L j hj
  exact ⟨(h3 (j * 2) (by omega)).trans this.1, (by rw [Nat.add_assoc]; exact (h3 (j * 2 + 1) (by omega)).trans this.2)⟩

theorem RdE.sliced {B : Nat} {w : World} {a : Option Addr} {n cap : Nat} {L : List Ent} (hn : L.length = n) (h : RdE B w (.slice a n cap) L) (lo hi m : Nat) (h1 : lo ≤ hi) (h2 : hi ≤ n) (hm : hi ≤ m) (hm2 : m ≤ cap) :
    RdE B w (Go.sliced a lo hi m 2) ((L.drop lo).take (hi - lo)) := by
  subst hn
  have h0 := Rd.sliced h lo hi m h1 h2 hm hm2
  have e : ((L.drop lo).take (hi - lo)).length = hi - lo := by simp; omega
  unfold RdE
  rw [e, ecs_take, ecs_drop]
  exact h0
theorem run_size29 (w : World) : (sizeOf 29).run Tryz.prog w = .ok 2 w := by kernel_rfl
theorem elem25 : Tryz.prog.elem 25 = 29 := by kernel_rfl
theorem under25 : Tryz.prog.underlying 25 = some (.slice (Tryz.prog.elem 25)) := by rw [elem25]; exact Tryz.underlying25
theorem RdE.slice_l {B : Nat} {w : World} {a : Option Addr} {n cap : Nat} {L : List Ent} (hn : L.length = n) (h : RdE B w (.slice a n cap) L) (lo : Nat) (h2 : lo ≤ n) :
    ∃ a' c', (∀ (x : Int), x = lo → ∀ W, (Instr.slice 25 (.slice a n cap) (some (.int .i64 x)) none none).run Tryz.prog W = .ok (.slice a' (n - lo) c') W) ∧ RdE B w (.slice a' (n - lo) c') (L.drop lo) := by
  subst hn
  obtain ⟨_, _, e, hc, _⟩ := Rd.shape h
  cases e
  have h0 := RdE.sliced rfl h lo L.length cap h2 (Nat.le_refl _) (by omega) (Nat.le_refl _)
  rw [List.take_of_length_le (by simp)] at h0
  refine ⟨_, _, ?_, h0⟩
  rintro x rfl W
  rw [run_slice_l W 25 a L.length cap under25 .i64 lo (by omega) (by omega), elem25, run_size29]
  rfl
/-- s[:k:k]: no spare room. -/
theorem RdE.slice_hm {B : Nat} {w : World} {a : Option Addr} {n cap : Nat} {L : List Ent} (hn : L.length = n) (h : RdE B w (.slice a n cap) L) (hi : Nat) (h2 : hi ≤ n) :
    ∃ a', (∀ (x y : Int), x = hi → y = hi → ∀ W, (Instr.slice 25 (.slice a n cap) none (some (.int .i64 x)) (some (.int .i64 y))).run Tryz.prog W = .ok (.slice a' hi hi) W) ∧ RdE B w (.slice a' hi hi) (L.take hi) := by
  subst hn
  obtain ⟨_, _, e, hc, _⟩ := Rd.shape h
  cases e
  have h0 := RdE.sliced rfl h 0 hi hi (Nat.zero_le _) h2 (Nat.le_refl _) (by omega)
  simp only [List.drop_zero, Nat.sub_zero] at h0
  refine ⟨_, ?_, h0⟩
  rintro x y rfl rfl W
  rw [run_slice_hm W 25 a L.length cap under25 .i64 .i64 hi hi (by omega) (by omega) (by omega), elem25, run_size29]
  rfl
/-- s[:k]. -/
theorem RdE.slice_h {B : Nat} {w : World} {a : Option Addr} {n cap : Nat} {L : List Ent} (hn : L.length = n) (h : RdE B w (.slice a n cap) L) (hi : Nat) (h2 : hi ≤ n) :
    ∃ a' c', (∀ (y : Int), y = hi → ∀ W, (Instr.slice 25 (.slice a n cap) none (some (.int .i64 y)) none).run Tryz.prog W = .ok (.slice a' hi c') W) ∧ RdE B w (.slice a' hi c') (L.take hi) := by
  subst hn
  obtain ⟨_, _, e, hc, _⟩ := Rd.shape h
  cases e
  have h0 := RdE.sliced rfl h 0 hi cap (Nat.zero_le _) h2 (by omega) (Nat.le_refl _)
  simp only [List.drop_zero, Nat.sub_zero] at h0
  refine ⟨_, _, ?_, h0⟩
  rintro y rfl W
  rw [run_slice_h W 25 a L.length cap under25 .i64 hi (by omega) (by omega), elem25, run_size29]
  rfl
theorem wpList_appE {ops : Array Oper} {rest : List Oper} {o : Oper} {a : Act} {Q : Exit → Act → World → Prop} (w : World) (hgd : o.guard = none) (s x : Operand)
    (ho : o.op = .call { callee := .builtin .append, args := #[s, x], argTypes := #[25, 25] }) (base : Nat) (v : Value) (L : List Ent) (hs : a.eval s = v) (hown : OwnE w base v L)
    (xv : Value) (M : List Ent) (hx : a.eval x = xv) (hsrc : Src Tryz.prog 2 25 xv M.length (ecs M) w) (hsz : L.length + M.length ≤ 1099511627776) (hbase : base ≤ w.heap.size)
    (h : ∀ v' w', OwnE w' base v' (L ++ M) → w.grownBy w' v.ownBlock → wpList Tryz.prog ops Q rest (a.put o.dst v') w') : wpList Tryz.prog ops Q (o :: rest) a w := by
  obtain ⟨i, hi, hz, h1, h2⟩ := info_parts Tryz.infoE
  obtain ⟨v', w', hr, hown', hg⟩ := run_append_own_src (P := Tryz.prog) w base 25 25 o.type 29 i _ 2 24 Tryz.underlying25 hi hz h1 h2 rfl v L.length (ecs L) hown xv M.length (ecs M) hsrc (by unfold maxLen; omega) (by omega) hbase
  refine wpList_plain hgd fun K hK => ?_
  unfold Oper.wp execOp
  simp only [ho, resolve, invoke, builtin, Sem.run_bind, Sem.run_pure, Result.andThen_ok, List.map_toArray, List.map_cons, List.map_nil, hs, hx, hr]
  refine hK _ _ (h v' w' ?_ hg)
  unfold OwnE
  rw [List.length_append, ecs_append]
  exact hown'

def entOk (x : Ent) : Bool := decide (1 ≤ x.term) && decide (x.term ≤ 1152921504606846976) && decide (x.data.size ≤ 65536)
def mayB (s : Sv) : Bool := decide (0 ≤ s.term) && decide (s.term ≤ 1152921504606846976) && decide (-1 ≤ s.vote) && decide (s.vote ≤ 6) && decide (s.log.length ≤ 4096) && s.log.all entOk

set_option maxRecDepth 10000 in
set_option maxHeartbeats 400000 in
theorem may1_calls (x : Ent) (hx : x.data.size ≤ maxLen) (w : World) :
    Calls Tryz.prog 51 #[.agg #[.int .i64 x.term, .string x.data]] w fun e w' => e = .returned (.bool (!entOk x)) ∧ Below w.heap.size w w' := by
  unfold maxLen at hx
  by_cases h1 : x.term < 1
  · have hr : (!entOk x) = true := by simp [entOk]; omega
    have HR := Lib.hid hr
    clear hr
    go_enter Tryz.func51, Tryz.ntmps51
    go_wp2
    go_ret
    exact ⟨by rw [HR.out]; rfl, (Below.refl _ _).alloc (Nat.le_refl _) _⟩
  · have hd1 : decide (x.term < 1) = false := by simpa using h1
    by_cases h2 : 1152921504606846976 < x.term
    · have hr : (!entOk x) = true := by simp [entOk]; omega
      have HR := Lib.hid hr
      clear hr
      go_enter Tryz.func51, Tryz.ntmps51
      go_wp2
      go_ret
      exact ⟨by rw [HR.out]; rfl, (Below.refl _ _).alloc (Nat.le_refl _) _⟩
    · have hd2 : decide (1152921504606846976 < x.term) = false := by simpa using h2
      have hr : (!entOk x) = decide (65536 < (x.data.size : Int)) := by
        by_cases h3 : 65536 < (x.data.size : Int)
        · simp [entOk, h3]; omega
        · simp [entOk, h3]; omega
      have HR := Lib.hid hr
      clear hr
      go_enter Tryz.func51, Tryz.ntmps51
      go_wp2
      go_ret
      exact ⟨by rw [HR.out]; rfl, (Below.refl _ _).alloc (Nat.le_refl _) _⟩

/-- What IndexFunc has found. -/
def Found (L : List Ent) (w : World) (e : Ending) (w' : World) : Prop := ∃ r : Int, e = .returned (.int .i64 r) ∧ decide (0 ≤ r) = (!L.all entOk) ∧ Below w.heap.size w w'
set_option maxRecDepth 10000 in
set_option maxHeartbeats 400000 in
theorem IndexFunc_calls (v : Value) (L : List Ent) (hL : ∀ x ∈ L, x.data.size ≤ maxLen) (w : World) (hv : RdE w.heap.size w v L) :
    Calls Tryz.prog 72 #[v, .func (.func 51) #[] #[]] w (Found L w) := by
  obtain ⟨a, cap, rfl, hcap, hcap2⟩ := hv.shape
  have hlen : L.length ≤ 9223372036854775807 := by unfold maxLen at hcap2; omega
  go_enter Tryz.func72, Tryz.ntmps72
  go_wp2
  go_loopw [5, 8] (fun _ i wr => ∃ k : Nat, k ≤ L.length ∧ i = .int .i64 k ∧ Hid ((L.take k).all entOk = true) ∧ Below w.heap.size w wr) (fun _ i wr => (L.length - intOf i).toNat)
  case atStart => exact ⟨0, by omega, rfl, Lib.hid (by simp), Below.refl _ _⟩
  case round =>
    obtain ⟨k, hk, rfl, hall, hb⟩ := hrel
    by_cases hk2 : k < L.length
    · have hvr := hv.below hb
      obtain ⟨b, off, rfl, _, _, hcell⟩ := RdE.cell hvr (by omega)
      have hc := (hcell k hk2).1
      have hc' := (hcell k hk2).2
      clear hcell
      have hsz := hL L[k] (List.getElem_mem hk2)
      have hB := hb.size
      generalize hx : L[k] = x at hc hc' hsz
      have HX := Lib.hid hx
      clear hx
      cases hok : entOk x with
      | true =>
        have HO := Lib.hid hok
        clear hok
        go_wp2_with (go_at_call 51; refine (may1_calls x hsz _).mono ?_; rintro e w1 ⟨rfl, hb1⟩; rw [HO.out])
        go_roundw
        case rel =>
          refine ⟨k + 1, by omega, by go_num, Lib.hid ?_, hb.trans (hb1.mono hB)⟩
          rw [List.take_succ_eq_append_getElem hk2, List.all_append, hall.out, HX.out]
          simp [HO.out]
        case measure => simp [intOf]; omega
      | false =>
        have HO := Lib.hid hok
        clear hok
        go_wp2_with (go_at_call 51; refine (may1_calls x hsz _).mono ?_; rintro e w1 ⟨rfl, hb1⟩; rw [HO.out])
        go_ret
        refine ⟨k, rfl, ?_, hb.trans (hb1.mono hB)⟩
        have : L.all entOk = false := by
          rw [List.all_eq_false]
          exact ⟨L[k], List.getElem_mem hk2, by rw [HX.out, HO.out]; simp⟩
        rw [this]
        simp
    · obtain rfl : k = L.length := by omega
      go_wp2
      go_ret
      refine ⟨-1, rfl, ?_, hb⟩
      have := hall.out
      rw [List.take_length] at this
      rw [this]
      rfl

set_option maxRecDepth 10000 in
set_option maxHeartbeats 400000 in
theorem ContainsFunc_calls (v : Value) (L : List Ent) (hL : ∀ x ∈ L, x.data.size ≤ maxLen) (w : World) (hv : RdE w.heap.size w v L) :
    Calls Tryz.prog 50 #[v, .func (.func 51) #[] #[]] w fun e w' => e = .returned (.bool (!L.all entOk)) ∧ Below w.heap.size w w' := by
  go_enter Tryz.func50, Tryz.ntmps50
  go_wp2_with (go_at_call 72; refine (IndexFunc_calls v L hL w hv).mono ?_; rintro e w1 ⟨r, rfl, hr, hb⟩; have HR := Lib.hid hr; clear hr)
  go_ret
  exact ⟨by rw [← HR.out]; rfl, hb⟩
end Go.Proofs.YtipbfmalacnmkaaGreat
