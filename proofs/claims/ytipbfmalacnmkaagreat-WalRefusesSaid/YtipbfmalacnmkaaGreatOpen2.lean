/- wal.Open at a disk that goes. -/
import Derived.Test.YtipbfmalacnmkaaGreatOpen1
namespace Go.Proofs.YtipbfmalacnmkaaGreat
open Go.RowKit Go.Shelf

/-- What Open does to the disk. -/
def Dk.opened (k : Dk) (q : List UInt8) (s : Sv) : Int × Dk := if q = [] then k.clear else k.anew (fullOf s)
def openSize (recs : List (List UInt8)) (q : List UInt8) (s : Sv) : Nat := if q = [] then (runsOf recs).length else (fullOf s).length

/-- What Open hands back. -/
def OpenPost (w : World) (d m : Nat) (k : Dk) (recs : List (List UInt8)) (q : List UInt8) (s : Sv) (e : Ending) (w' : World) : Prop :=
  DiskAt w' d m (k.opened q s).2 ∧ Ext [d, m] w w' ∧
  (((k.opened q s).1 ≠ 0 ∧ e = .returned (.tuple #[.pointer none, .agg #[.int .i64 0, .int .i64 0, .slice none 0 0], .int .i64 (k.opened q s).1])) ∨
   ((k.opened q s).1 = 0 ∧ ∃ g lv v, e = .returned (.tuple #[.pointer (some ⟨g, 0, none⟩), .agg #[.int .i64 s.term, .int .i64 s.vote, v], .int .i64 0]) ∧ w.heap.size ≤ g ∧ WalRow w' g d s.term s.vote lv (openSize recs q s) false ∧ ∃ B, g < B ∧ RdE B w' lv s.log ∧ OwnE w' B v s.log))

theorem rowFacts {w : World} {z : Nat} {a b c : Value} (r : w.heap[z]? = some (.cells #[a, b, c] 27 (0, 0))) : w.cell? ⟨z, 0, none⟩ = some a ∧ w.cell? ⟨z, 1, none⟩ = some b ∧ w.cell? ⟨z, 2, none⟩ = some c ∧ w.frozen? ⟨z, 0, none⟩ = false ∧ w.frozen? ⟨z, 1, none⟩ = false ∧ w.frozen? ⟨z, 2, none⟩ = false :=
  ⟨by rw [cell_of_row _ _ _ _ _ _ r]; rfl, by rw [cell_of_row _ _ _ _ _ _ r]; rfl, by rw [cell_of_row _ _ _ _ _ _ r]; rfl, frozen_of_row _ _ _ _ _ r, frozen_of_row _ _ _ _ _ r, frozen_of_row _ _ _ _ _ r⟩
theorem DiskAt.not29 {w : World} {d m : Nat} {k : Dk} (hd : DiskAt w d m k) : ∀ x ∈ [d, m], ∀ cur fz, w.heap[x]? ≠ some (.cells cur 29 fz) := by
  intro q hq cur fz hc
  simp only [List.mem_cons, List.not_mem_nil, or_false] at hq
  obtain ⟨gm, hrow, hmap, _⟩ := id hd
  rcases hq with rfl | rfl
  · rw [hrow] at hc; cases hc
  · obtain ⟨es, clock, hblk⟩ := hmap.block; rw [hblk] at hc; cases hc
theorem DiskAt.notFar {w : World} {d m : Nat} {k : Dk} (hd : DiskAt w d m k) {t : Nat} (ht : Far t) : ∀ x ∈ [d, m], ∀ cur fz, w.heap[x]? ≠ some (.cells cur t fz) := by
  intro q hq cur fz hc
  simp only [List.mem_cons, List.not_mem_nil, or_false] at hq
  obtain ⟨gm, hrow, hmap, _⟩ := id hd
  rcases hq with rfl | rfl
  · rw [hrow] at hc; cases hc; exact absurd rfl ht.ne
  · obtain ⟨es, clock, hblk⟩ := hmap.block; rw [hblk] at hc; cases hc
theorem ext29 {w w' : World} {d m g : Nat} {cur : Array Value} {fz : Nat × Nat} {q t : Nat} (h : Ext [d, m, g] w w') (hn : w.heap.size ≤ g) (hc : w.heap[q]? = some (.cells cur t fz)) (h2 : ∀ x ∈ [d, m], ∀ cur fz, w.heap[x]? ≠ some (.cells cur t fz)) : w'.heap[q]? = some (.cells cur t fz) := by
  have hl := (Array.getElem?_eq_some_iff.1 hc).1
  refine (h.block q hl ?_).trans hc
  simp only [List.mem_cons, List.not_mem_nil, or_false]
  rintro (rfl | rfl | rfl)
  · exact h2 q (by simp) _ _ hc
  · exact h2 q (by simp) _ _ hc
  · omega
set_option maxRecDepth 10000 in
set_option maxHeartbeats 2000000 in
theorem Open_calls {w : World} {d m : Nat} {k : Dk} (hd : DiskAt w d m k) (hfu : k.fuseOk) (hoff : k.off = false) (recs : List (List UInt8)) (q : List UInt8) (s : Sv) (hq : Torn q) (hch : Chain ⟨0, -1, []⟩ recs s) (hs : mayB s = true) (hb : (k.get .wal).b = runsOf recs ++ q)
    (hsz : (k.get .wal).b.length ≤ 1099511627776) : Calls Tryz.prog 17 #[.pointer (some ⟨d, 0, none⟩)] w fun e w' => OpenPost w d m k recs q s e w' := by
  have X1 : Ext [] w (w.alloc (.cells #[.int .i64 0, .int .i64 0, .slice none 0 0] 27)) := (Ext.refl [] w).alloc _
  have hr := Read_disk_calls (hd.nil X1) .wal hsz
  have he : k.errAt .wal = 0 ∨ k.errAt .wal = 5 := by
    unfold Dk.errAt
    rw [hoff]
    simp only [Bool.false_eq_true, if_false]
    split
    · exact .inl rfl
    · exact .inr rfl
  have hcont : (if k.errAt .wal = 0 then (k.get .wal).b else []) = runsOf recs ++ q := by
    rcases he with he | he
    · rw [if_pos he, hb]
    · rw [if_neg (by rw [he]; decide), ← hb]
      have : (k.fs .wal).isSome = false := by
        unfold Dk.errAt at he
        rw [hoff] at he
        simp only [Bool.false_eq_true, if_false] at he
        split at he
        · cases he
        · rename_i h; simpa using h
      cases hf : k.fs .wal with
      | none => simp [Dk.get, hf, Fl.none]
      | some f => rw [hf] at this; cases this
  rw [hcont] at hr
  rw [hb] at hsz
  change Calls Tryz.prog 36 #[.pointer (some ⟨d, 0, none⟩), .string ⟨#[119, 97, 108]⟩] _ _ at hr
  have HR := Lib.hid hr
  have hlen : (runsOf recs ++ q).length = (runsOf recs).length + q.length := List.length_append
  have HS := Lib.hid hs
  have HFU := Lib.hid hfu
  have HCH := Lib.hid hch
  have HB := Lib.hid hb
  have hll : s.log.length ≤ 1099511627776 := by have := (may_parts hs).2.2.2.2.1; omega
  have ld := hd.lt
  have lm := hd.ltm
  generalize hE : k.errAt .wal = E at he HR
  clear hr hcont hs hfu hch hb hE
  by_cases hqn : q = []
  · have hop : k.opened q s = k.clear := by unfold Dk.opened; rw [if_pos hqn]
    have hos : openSize recs q s = (runsOf recs).length := by unfold openSize; rw [if_pos hqn]
    have hq0 : q.length = 0 := by rw [hqn]; rfl
    have HOP := Lib.hid hop
    have HOS := Lib.hid hos
    clear hop hos
    generalize hL : (runsOf recs ++ q).length = LL at *
    obtain rfl : LL = (runsOf recs).length := by omega
    have HLL := Lib.hid hL
    have HQN := Lib.hid hqn
    clear hlen hq0 hqn hL
    by_cases hc : k.clear.1 = 0
    · have HC := Lib.hid hc
      clear hc
      rcases he with rfl | rfl
      all_goals
        go_enter Tryz.func17, Tryz.ntmps17
        go_wp2_with (first
          | (go_at_call 36; refine HR.out.mono ?_
             rintro e w2 ⟨v2, rfl, rb2, x2⟩
             obtain ⟨a2, c2, rfl, _, _⟩ := rb2.shape
             rw [HLL.out] at rb2 ⊢
             have x12 := X1.trans x2)
          | (go_at_call 39; refine (load_calls _ recs q hq s HCH.out w2 (by simpa only [HLL.out] using rb2) (by rw [HLL.out]; omega) HS.out).mono ?_
             rintro e w3 ⟨lv, rfl, rl3, b3⟩
             obtain ⟨al, cl, rfl, _, _⟩ := rl3.shape
             have x13 : Ext [] w w3 := x12.trans (Ext.of_below b3)
             have x35 : Ext [] w3 ((w3.alloc (.cells #[.int .i64 s.term, .int .i64 s.vote, .slice al s.log.length cl] 27)).alloc (.cells #[.pointer (some ⟨d, 0, none⟩), .int .i64 s.term, .int .i64 s.vote, .slice al s.log.length cl, .int .i64 (runsOf recs).length, .bool false] 41)) := ((Ext.refl [] w3).alloc _).alloc _
             have x5 := x13.trans x35
             have zw3 : w.heap.size + 1 ≤ w3.heap.size := Nat.le_trans (by simp) (Nat.le_trans x2.size b3.size)
             have hw0 : ((w3.alloc (.cells #[.int .i64 s.term, .int .i64 s.vote, .slice al s.log.length cl] 27)).alloc (.cells #[.pointer (some ⟨d, 0, none⟩), .int .i64 s.term, .int .i64 s.vote, .slice al s.log.length cl, .int .i64 (runsOf recs).length, .bool false] 41)).heap[w.heap.size]? = some (.cells #[.int .i64 0, .int .i64 0, .slice none 0 0] 27 (0, 0)) := x35.heap ((Ext.of_below b3).heap (x2.heap (heap_alloc_new w _)))
             have row5 : WalRow ((w3.alloc (.cells #[.int .i64 s.term, .int .i64 s.vote, .slice al s.log.length cl] 27)).alloc (.cells #[.pointer (some ⟨d, 0, none⟩), .int .i64 s.term, .int .i64 s.vote, .slice al s.log.length cl, .int .i64 (runsOf recs).length, .bool false] 41)) (w3.heap.size + 1) d s.term s.vote (.slice al s.log.length cl) (runsOf recs).length false := (by
               have := heap_alloc_new (w3.alloc (.cells #[.int .i64 s.term, .int .i64 s.vote, .slice al s.log.length cl] 27)) (.cells #[.pointer (some ⟨d, 0, none⟩), .int .i64 s.term, .int .i64 s.vote, .slice al s.log.length cl, .int .i64 (runsOf recs).length, .bool false] 41)
               simp only [World.size_alloc] at this
               exact this))
          | (go_at_call 40; refine (clear_calls (hd.nil x5) HFU.out).mono ?_
             rintro e w6 ⟨rfl, d6, x6⟩
             have rowc := (x6.block w.heap.size (Array.getElem?_eq_some_iff.1 hw0).1 (by simp; omega)).trans hw0
             have row6 : WalRow w6 (w3.heap.size + 1) d s.term s.vote (.slice al s.log.length cl) (runsOf recs).length false := row5.ext x6 (by simp; omega)
             have x6g : Ext [d, m] w w6 := ((Ext.refl [d, m] w).cut (M1 := []) x5 (by simp)).trans x6
             have x36 : Ext [d, m, w3.heap.size + 1] w3 w6 := ((Ext.refl [d, m, w3.heap.size + 1] w3).cut (M1 := []) x35 (by simp)).cut (M1 := [d, m]) x6 (by simp)
             clear x6 x35 row5
             obtain ⟨y0, y1, y2, y3, y4, y5⟩ := rowFacts rowc
             rw [HC.out])
          | (go_at_call 16; refine (Saved_calls row6 s.log (RdE.mono (Rd.keep rl3 (fun qq cur fz _ hcc => ext29 x36 (by omega) hcc (hd.nil x13).not29) (fun _ t ht qq cur fz _ hcc => ext29 x36 (by omega) hcc ((hd.nil x13).notFar ht))) x36.size) hll).mono ?_
             rintro e w7 ⟨v7, rfl, ho7, b7⟩
             obtain ⟨a7, c7, rfl, _, _⟩ := ho7.rd.shape
             obtain ⟨y0, y1, y2, y3, y4, y5⟩ := rowFacts ((Ext.of_below b7).heap rowc)))
        have x7 : Ext [] w6 w7 := Ext.of_below b7
        refine open_post (row3 (x7.heap rowc) _ _ _) (by rfl) (by rfl) (by rfl) ?_
        have hz6 : w.heap.size < w6.heap.size := (Array.getElem?_eq_some_iff.1 rowc).1
        have e8 := Ext.row3 (z := w.heap.size) (Ext.refl [w.heap.size] w7) (.inl (by simp)) (.int .i64 s.term) (.int .i64 s.vote) (.slice a7 s.log.length c7)
        have rl6 : RdE w6.heap.size w6 (.slice al s.log.length cl) s.log := RdE.mono (Rd.keep rl3 (fun qq cur fz _ hcc => ext29 x36 (by omega) hcc (hd.nil x13).not29) (fun _ t ht qq cur fz _ hcc => ext29 x36 (by omega) hcc ((hd.nil x13).notFar ht))) x36.size
        have hz27 : ∀ qq ∈ [w.heap.size], ∀ t cur fz, t ≠ 27 → w7.heap[qq]? ≠ some (.cells cur t fz) := fun qq hqq t cur fz ht hcc => by
          rw [List.mem_singleton] at hqq
          subst hqq
          rw [x7.heap rowc] at hcc
          cases hcc
          exact ht rfl
        refine ⟨?_, ((x6g.cut (M1 := []) x7 (by simp)).row3 (.inr (Nat.le_refl _)) _ _ _), .inr ⟨by rw [HOP.out]; exact HC.out, w3.heap.size + 1, .slice al s.log.length cl, .slice a7 s.log.length c7, rfl, by omega, ?_, w6.heap.size, row6.lt, ?_, ?_⟩⟩
        · rw [HOP.out]
          exact (d6.nil x7).ext e8 (fun qq hqq => ⟨by rw [List.mem_singleton] at hqq; omega, by rw [List.mem_singleton] at hqq; omega, fun cur fz => hz27 qq hqq 5 cur fz (by decide)⟩)
        · rw [HOS.out]
          exact (row6.ext x7 (by simp)).ext e8 (by simp; omega)
        · exact Rd.extM (Rd.ext rl6 x7) e8 (fun qq hqq cur fz => hz27 qq hqq 29 cur fz (by decide)) (fun _ t ht qq hqq cur fz => hz27 qq hqq t cur fz ht.ne)
        · exact ((ho7.setBelow hz6 _).setBelow hz6 _).setBelow hz6 _
    · obtain ⟨E1, hE1⟩ : ∃ E1, k.clear.1 = E1 := ⟨_, rfl⟩
      rw [hE1] at hc
      have hne : (E1 == 0) = false := by simpa using hc
      have HC := Lib.hid hE1
      clear hc hE1
      rcases he with rfl | rfl
      all_goals
        go_enter Tryz.func17, Tryz.ntmps17
        go_wp2_with (first
          | (go_at_call 36; refine HR.out.mono ?_
             rintro e w2 ⟨v2, rfl, rb2, x2⟩
             obtain ⟨a2, c2, rfl, _, _⟩ := rb2.shape
             rw [HLL.out] at rb2 ⊢
             have x12 := X1.trans x2)
          | (go_at_call 39; refine (load_calls _ recs q hq s HCH.out w2 (by simpa only [HLL.out] using rb2) (by rw [HLL.out]; omega) HS.out).mono ?_
             rintro e w3 ⟨lv, rfl, rl3, b3⟩
             obtain ⟨al, cl, rfl, _, _⟩ := rl3.shape
             have x13 : Ext [] w w3 := x12.trans (Ext.of_below b3)
             have x35 : Ext [] w3 ((w3.alloc (.cells #[.int .i64 s.term, .int .i64 s.vote, .slice al s.log.length cl] 27)).alloc (.cells #[.pointer (some ⟨d, 0, none⟩), .int .i64 s.term, .int .i64 s.vote, .slice al s.log.length cl, .int .i64 (runsOf recs).length, .bool false] 41)) := ((Ext.refl [] w3).alloc _).alloc _
             have x5 := x13.trans x35
             have zw3 : w.heap.size + 1 ≤ w3.heap.size := Nat.le_trans (by simp) (Nat.le_trans x2.size b3.size)
             have hw0 : ((w3.alloc (.cells #[.int .i64 s.term, .int .i64 s.vote, .slice al s.log.length cl] 27)).alloc (.cells #[.pointer (some ⟨d, 0, none⟩), .int .i64 s.term, .int .i64 s.vote, .slice al s.log.length cl, .int .i64 (runsOf recs).length, .bool false] 41)).heap[w.heap.size]? = some (.cells #[.int .i64 0, .int .i64 0, .slice none 0 0] 27 (0, 0)) := x35.heap ((Ext.of_below b3).heap (x2.heap (heap_alloc_new w _)))
             have row5 : WalRow ((w3.alloc (.cells #[.int .i64 s.term, .int .i64 s.vote, .slice al s.log.length cl] 27)).alloc (.cells #[.pointer (some ⟨d, 0, none⟩), .int .i64 s.term, .int .i64 s.vote, .slice al s.log.length cl, .int .i64 (runsOf recs).length, .bool false] 41)) (w3.heap.size + 1) d s.term s.vote (.slice al s.log.length cl) (runsOf recs).length false := (by
               have := heap_alloc_new (w3.alloc (.cells #[.int .i64 s.term, .int .i64 s.vote, .slice al s.log.length cl] 27)) (.cells #[.pointer (some ⟨d, 0, none⟩), .int .i64 s.term, .int .i64 s.vote, .slice al s.log.length cl, .int .i64 (runsOf recs).length, .bool false] 41)
               simp only [World.size_alloc] at this
               exact this))
          | (go_at_call 40; refine (clear_calls (hd.nil x5) HFU.out).mono ?_
             rintro e w6 ⟨rfl, d6, x6⟩
             have rowc := (x6.block w.heap.size (Array.getElem?_eq_some_iff.1 hw0).1 (by simp; omega)).trans hw0
             have row6 : WalRow w6 (w3.heap.size + 1) d s.term s.vote (.slice al s.log.length cl) (runsOf recs).length false := row5.ext x6 (by simp; omega)
             have x6g : Ext [d, m] w w6 := ((Ext.refl [d, m] w).cut (M1 := []) x5 (by simp)).trans x6
             have x36 : Ext [d, m, w3.heap.size + 1] w3 w6 := ((Ext.refl [d, m, w3.heap.size + 1] w3).cut (M1 := []) x35 (by simp)).cut (M1 := [d, m]) x6 (by simp)
             clear x6 x35 row5
             obtain ⟨y0, y1, y2, y3, y4, y5⟩ := rowFacts rowc
             rw [HC.out]))
        refine open_post (row3 rowc _ _ _) (by rfl) (by rfl) (by rfl) ?_
        have e8 := Ext.row3 (z := w.heap.size) (Ext.refl [w.heap.size] w6) (.inl (by simp)) (.int .i64 0) (.int .i64 0) (.slice none 0 0)
        have hz27 : ∀ qq ∈ [w.heap.size], ∀ t cur fz, t ≠ 27 → w6.heap[qq]? ≠ some (.cells cur t fz) := fun qq hqq t cur fz ht hcc => by
          rw [List.mem_singleton] at hqq
          subst hqq
          rw [rowc] at hcc
          cases hcc
          exact ht rfl
        have hop1 : (k.opened q s).1 = E1 := by rw [HOP.out]; exact HC.out
        refine ⟨?_, x6g.row3 (.inr (Nat.le_refl _)) _ _ _, .inl ⟨by rw [hop1]; simpa using hne, by rw [hop1]; rfl⟩⟩
        rw [HOP.out]
        exact d6.ext e8 (fun qq hqq => ⟨by rw [List.mem_singleton] at hqq; omega, by rw [List.mem_singleton] at hqq; omega, fun cur fz => hz27 qq hqq 5 cur fz (by decide)⟩)
  · have hop : k.opened q s = k.anew (fullOf s) := by unfold Dk.opened; rw [if_neg hqn]
    have hos : openSize recs q s = (fullOf s).length := by unfold openSize; rw [if_neg hqn]
    have hq0 : 0 < q.length := List.length_pos_iff.2 hqn
    have HOP := Lib.hid hop
    clear hop
    generalize hL : (runsOf recs ++ q).length = LL at *
    have hlt : (runsOf recs).length < LL := by omega
    have HLL := Lib.hid hL
    obtain ⟨NN, hNN⟩ : ∃ NN, NN = (if (k.anew (fullOf s)).1 = 0 then (fullOf s).length else (runsOf recs).length) := ⟨_, rfl⟩
    have HNN := Lib.hid hNN
    by_cases hc : (k.anew (fullOf s)).1 = 0
    · have HOS : Hid (openSize recs q s = NN) := Lib.hid (by rw [hos, hNN, if_pos hc])
      have HC := Lib.hid hc
      clear hc hlen hq0 hqn hL hNN hos
      rcases he with rfl | rfl
      all_goals
        go_enter Tryz.func17, Tryz.ntmps17
        go_wp2_with (first
          | (go_at_call 36; refine HR.out.mono ?_
             rintro e w2 ⟨v2, rfl, rb2, x2⟩
             obtain ⟨a2, c2, rfl, _, _⟩ := rb2.shape
             rw [HLL.out] at rb2 ⊢
             have x12 := X1.trans x2)
          | (go_at_call 39; refine (load_calls _ recs q hq s HCH.out w2 (by simpa only [HLL.out] using rb2) (by rw [HLL.out]; omega) HS.out).mono ?_
             rintro e w3 ⟨lv, rfl, rl3, b3⟩
             obtain ⟨al, cl, rfl, _, _⟩ := rl3.shape
             have x13 : Ext [] w w3 := x12.trans (Ext.of_below b3)
             have x35 : Ext [] w3 ((w3.alloc (.cells #[.int .i64 s.term, .int .i64 s.vote, .slice al s.log.length cl] 27)).alloc (.cells #[.pointer (some ⟨d, 0, none⟩), .int .i64 s.term, .int .i64 s.vote, .slice al s.log.length cl, .int .i64 (runsOf recs).length, .bool false] 41)) := ((Ext.refl [] w3).alloc _).alloc _
             have x5 := x13.trans x35
             have zw3 : w.heap.size + 1 ≤ w3.heap.size := Nat.le_trans (by simp) (Nat.le_trans x2.size b3.size)
             have hw0 : ((w3.alloc (.cells #[.int .i64 s.term, .int .i64 s.vote, .slice al s.log.length cl] 27)).alloc (.cells #[.pointer (some ⟨d, 0, none⟩), .int .i64 s.term, .int .i64 s.vote, .slice al s.log.length cl, .int .i64 (runsOf recs).length, .bool false] 41)).heap[w.heap.size]? = some (.cells #[.int .i64 0, .int .i64 0, .slice none 0 0] 27 (0, 0)) := x35.heap ((Ext.of_below b3).heap (x2.heap (heap_alloc_new w _)))
             have row5 : WalRow ((w3.alloc (.cells #[.int .i64 s.term, .int .i64 s.vote, .slice al s.log.length cl] 27)).alloc (.cells #[.pointer (some ⟨d, 0, none⟩), .int .i64 s.term, .int .i64 s.vote, .slice al s.log.length cl, .int .i64 (runsOf recs).length, .bool false] 41)) (w3.heap.size + 1) d s.term s.vote (.slice al s.log.length cl) (runsOf recs).length false := (by
               have := heap_alloc_new (w3.alloc (.cells #[.int .i64 s.term, .int .i64 s.vote, .slice al s.log.length cl] 27)) (.cells #[.pointer (some ⟨d, 0, none⟩), .int .i64 s.term, .int .i64 s.vote, .slice al s.log.length cl, .int .i64 (runsOf recs).length, .bool false] 41)
               simp only [World.size_alloc] at this
               exact this))
          | (go_at_call 31; refine (anew_calls (hd.nil x5) HFU.out row5 s (.slice al s.log.length cl) (RdE.mono (Rd.ext rl3 x35) x35.size) HS.out).mono ?_
             rintro e w6 ⟨rfl, d6, x6, row6'⟩
             have rowc := (x6.block w.heap.size (Array.getElem?_eq_some_iff.1 hw0).1 (by simp; omega)).trans hw0
             have row6 : WalRow w6 (w3.heap.size + 1) d s.term s.vote (.slice al s.log.length cl) NN false := by rw [HNN.out]; exact row6'
             have x6g : Ext [d, m] w w6 := ((Ext.refl [d, m] w).cut (M1 := []) x5 (by simp)).cut (M1 := [d, m, w3.heap.size + 1]) x6 (by simp; omega)
             have x36 : Ext [d, m, w3.heap.size + 1] w3 w6 := ((Ext.refl [d, m, w3.heap.size + 1] w3).cut (M1 := []) x35 (by simp)).trans x6
             clear x6 x35 row5 row6'
             obtain ⟨y0, y1, y2, y3, y4, y5⟩ := rowFacts rowc
             rw [HC.out])
          | (go_at_call 16; refine (Saved_calls row6 s.log (RdE.mono (Rd.keep rl3 (fun qq cur fz _ hcc => ext29 x36 (by omega) hcc (hd.nil x13).not29) (fun _ t ht qq cur fz _ hcc => ext29 x36 (by omega) hcc ((hd.nil x13).notFar ht))) x36.size) hll).mono ?_
             rintro e w7 ⟨v7, rfl, ho7, b7⟩
             obtain ⟨a7, c7, rfl, _, _⟩ := ho7.rd.shape
             obtain ⟨y0, y1, y2, y3, y4, y5⟩ := rowFacts ((Ext.of_below b7).heap rowc)))
        have x7 : Ext [] w6 w7 := Ext.of_below b7
        refine open_post (row3 (x7.heap rowc) _ _ _) (by rfl) (by rfl) (by rfl) ?_
        have hz6 : w.heap.size < w6.heap.size := (Array.getElem?_eq_some_iff.1 rowc).1
        have e8 := Ext.row3 (z := w.heap.size) (Ext.refl [w.heap.size] w7) (.inl (by simp)) (.int .i64 s.term) (.int .i64 s.vote) (.slice a7 s.log.length c7)
        have rl6 : RdE w6.heap.size w6 (.slice al s.log.length cl) s.log := RdE.mono (Rd.keep rl3 (fun qq cur fz _ hcc => ext29 x36 (by omega) hcc (hd.nil x13).not29) (fun _ t ht qq cur fz _ hcc => ext29 x36 (by omega) hcc ((hd.nil x13).notFar ht))) x36.size
        have hz27 : ∀ qq ∈ [w.heap.size], ∀ t cur fz, t ≠ 27 → w7.heap[qq]? ≠ some (.cells cur t fz) := fun qq hqq t cur fz ht hcc => by
          rw [List.mem_singleton] at hqq
          subst hqq
          rw [x7.heap rowc] at hcc
          cases hcc
          exact ht rfl
        refine ⟨?_, ((x6g.cut (M1 := []) x7 (by simp)).row3 (.inr (Nat.le_refl _)) _ _ _), .inr ⟨by rw [HOP.out]; exact HC.out, w3.heap.size + 1, .slice al s.log.length cl, .slice a7 s.log.length c7, rfl, by omega, ?_, w6.heap.size, row6.lt, ?_, ?_⟩⟩
        · rw [HOP.out]
          exact (d6.nil x7).ext e8 (fun qq hqq => ⟨by rw [List.mem_singleton] at hqq; omega, by rw [List.mem_singleton] at hqq; omega, fun cur fz => hz27 qq hqq 5 cur fz (by decide)⟩)
        · rw [HOS.out]
          exact (row6.ext x7 (by simp)).ext e8 (by simp; omega)
        · exact Rd.extM (Rd.ext rl6 x7) e8 (fun qq hqq cur fz => hz27 qq hqq 29 cur fz (by decide)) (fun _ t ht qq hqq cur fz => hz27 qq hqq t cur fz ht.ne)
        · exact ((ho7.setBelow hz6 _).setBelow hz6 _).setBelow hz6 _
    · obtain ⟨E1, hE1⟩ : ∃ E1, (k.anew (fullOf s)).1 = E1 := ⟨_, rfl⟩
      rw [hE1] at hc
      have hne : (E1 == 0) = false := by simpa using hc
      have HC := Lib.hid hE1
      clear hc hE1 hlen hq0 hqn hL hNN hos
      rcases he with rfl | rfl
      all_goals
        go_enter Tryz.func17, Tryz.ntmps17
        go_wp2_with (first
          | (go_at_call 36; refine HR.out.mono ?_
             rintro e w2 ⟨v2, rfl, rb2, x2⟩
             obtain ⟨a2, c2, rfl, _, _⟩ := rb2.shape
             rw [HLL.out] at rb2 ⊢
             have x12 := X1.trans x2)
          | (go_at_call 39; refine (load_calls _ recs q hq s HCH.out w2 (by simpa only [HLL.out] using rb2) (by rw [HLL.out]; omega) HS.out).mono ?_
             rintro e w3 ⟨lv, rfl, rl3, b3⟩
             obtain ⟨al, cl, rfl, _, _⟩ := rl3.shape
             have x13 : Ext [] w w3 := x12.trans (Ext.of_below b3)
             have x35 : Ext [] w3 ((w3.alloc (.cells #[.int .i64 s.term, .int .i64 s.vote, .slice al s.log.length cl] 27)).alloc (.cells #[.pointer (some ⟨d, 0, none⟩), .int .i64 s.term, .int .i64 s.vote, .slice al s.log.length cl, .int .i64 (runsOf recs).length, .bool false] 41)) := ((Ext.refl [] w3).alloc _).alloc _
             have x5 := x13.trans x35
             have zw3 : w.heap.size + 1 ≤ w3.heap.size := Nat.le_trans (by simp) (Nat.le_trans x2.size b3.size)
             have hw0 : ((w3.alloc (.cells #[.int .i64 s.term, .int .i64 s.vote, .slice al s.log.length cl] 27)).alloc (.cells #[.pointer (some ⟨d, 0, none⟩), .int .i64 s.term, .int .i64 s.vote, .slice al s.log.length cl, .int .i64 (runsOf recs).length, .bool false] 41)).heap[w.heap.size]? = some (.cells #[.int .i64 0, .int .i64 0, .slice none 0 0] 27 (0, 0)) := x35.heap ((Ext.of_below b3).heap (x2.heap (heap_alloc_new w _)))
             have row5 : WalRow ((w3.alloc (.cells #[.int .i64 s.term, .int .i64 s.vote, .slice al s.log.length cl] 27)).alloc (.cells #[.pointer (some ⟨d, 0, none⟩), .int .i64 s.term, .int .i64 s.vote, .slice al s.log.length cl, .int .i64 (runsOf recs).length, .bool false] 41)) (w3.heap.size + 1) d s.term s.vote (.slice al s.log.length cl) (runsOf recs).length false := (by
               have := heap_alloc_new (w3.alloc (.cells #[.int .i64 s.term, .int .i64 s.vote, .slice al s.log.length cl] 27)) (.cells #[.pointer (some ⟨d, 0, none⟩), .int .i64 s.term, .int .i64 s.vote, .slice al s.log.length cl, .int .i64 (runsOf recs).length, .bool false] 41)
               simp only [World.size_alloc] at this
               exact this))
          | (go_at_call 31; refine (anew_calls (hd.nil x5) HFU.out row5 s (.slice al s.log.length cl) (RdE.mono (Rd.ext rl3 x35) x35.size) HS.out).mono ?_
             rintro e w6 ⟨rfl, d6, x6, row6'⟩
             have rowc := (x6.block w.heap.size (Array.getElem?_eq_some_iff.1 hw0).1 (by simp; omega)).trans hw0
             have row6 : WalRow w6 (w3.heap.size + 1) d s.term s.vote (.slice al s.log.length cl) NN false := by rw [HNN.out]; exact row6'
             have x6g : Ext [d, m] w w6 := ((Ext.refl [d, m] w).cut (M1 := []) x5 (by simp)).cut (M1 := [d, m, w3.heap.size + 1]) x6 (by simp; omega)
             have x36 : Ext [d, m, w3.heap.size + 1] w3 w6 := ((Ext.refl [d, m, w3.heap.size + 1] w3).cut (M1 := []) x35 (by simp)).trans x6
             clear x6 x35 row5 row6'
             obtain ⟨y0, y1, y2, y3, y4, y5⟩ := rowFacts rowc
             rw [HC.out]))
        refine open_post (row3 rowc _ _ _) (by rfl) (by rfl) (by rfl) ?_
        have e8 := Ext.row3 (z := w.heap.size) (Ext.refl [w.heap.size] w6) (.inl (by simp)) (.int .i64 0) (.int .i64 0) (.slice none 0 0)
        have hz27 : ∀ qq ∈ [w.heap.size], ∀ t cur fz, t ≠ 27 → w6.heap[qq]? ≠ some (.cells cur t fz) := fun qq hqq t cur fz ht hcc => by
          rw [List.mem_singleton] at hqq
          subst hqq
          rw [rowc] at hcc
          cases hcc
          exact ht rfl
        have hop1 : (k.opened q s).1 = E1 := by rw [HOP.out]; exact HC.out
        refine ⟨?_, x6g.row3 (.inr (Nat.le_refl _)) _ _ _, .inl ⟨by rw [hop1]; simpa using hne, by rw [hop1]; rfl⟩⟩
        rw [HOP.out]
        exact d6.ext e8 (fun qq hqq => ⟨by rw [List.mem_singleton] at hqq; omega, by rw [List.mem_singleton] at hqq; omega, fun cur fz => hz27 qq hqq 5 cur fz (by decide)⟩)
end Go.Proofs.YtipbfmalacnmkaaGreat
