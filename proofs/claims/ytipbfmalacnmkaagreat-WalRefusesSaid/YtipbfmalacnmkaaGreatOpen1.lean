/- wal.Open, walked. -/
import Derived.Test.YtipbfmalacnmkaaGreatSaved
namespace Go.Proofs.YtipbfmalacnmkaaGreat
open Go.RowKit Go.Shelf

set_option maxRecDepth 10000 in
theorem there_bad (p : Value) (x : Nm) (w : World) (hg : Calls Tryz.prog 41 #[p] w fun e w' => e = .returned (.int .i64 1) ∧ w = w') (hp : p = .pointer none ∨ ∃ a, p = .pointer (some a)) : Calls Tryz.prog 48 #[p, x.str] w fun e w' => e = .returned (.int .i64 1) ∧ w = w' := by
  obtain ⟨ks, hks⟩ : ∃ ks, x.str = .string ks := ⟨_, rfl⟩
  rw [hks]
  rcases hp with rfl | ⟨a, rfl⟩
  all_goals
    go_enter Tryz.func48, Tryz.ntmps48
    go_wp2_with (go_at_call 41; refine hg.mono ?_; rintro e w' ⟨rfl, rfl⟩)
    go_ret
    exact ⟨rfl, rfl⟩
set_option maxRecDepth 10000 in
theorem Read_bad (p : Value) (x : Nm) (w : World) (hg : Calls Tryz.prog 41 #[p] w fun e w' => e = .returned (.int .i64 1) ∧ w = w') (hp : p = .pointer none ∨ ∃ a, p = .pointer (some a)) : Calls Tryz.prog 36 #[p, x.str] w fun e w' => e = .returned (.tuple #[.slice none 0 0, .int .i64 1]) ∧ w = w' := by
  have hth := there_bad p x w hg hp
  obtain ⟨ks, hks⟩ : ∃ ks, x.str = .string ks := ⟨_, rfl⟩
  rw [hks] at hth ⊢
  rcases hp with rfl | ⟨a, rfl⟩
  all_goals
    go_enter Tryz.func36, Tryz.ntmps36
    go_wp2_with (go_at_call 48; refine hth.mono ?_; rintro e w' ⟨rfl, rfl⟩)
    go_ret2
    exact ⟨rfl, rfl⟩
theorem row3 {w : World} {z : Nat} {a0 b0 c0 : Value} (r : w.heap[z]? = some (.cells #[a0, b0, c0] 27 (0, 0))) (a b c : Value) : (((w.setCell ⟨z, 0, none⟩ a).setCell ⟨z, 1, none⟩ b).setCell ⟨z, 2, none⟩ c).heap[z]? = some (.cells #[a, b, c] 27 (0, 0)) :=
  heap_set (o := 2) c (heap_set (o := 1) b (heap_set (o := 0) a r))
theorem Ext.row3 {M : List Nat} {w0 w : World} {z : Nat} (h : Ext M w0 w) (hz : z ∈ M ∨ w0.heap.size ≤ z) (a b c : Value) : Ext M w0 (((w.setCell ⟨z, 0, none⟩ a).setCell ⟨z, 1, none⟩ b).setCell ⟨z, 2, none⟩ c) :=
  ((h.setCell (p := ⟨z, 0, none⟩) hz a).setCell (p := ⟨z, 1, none⟩) hz b).setCell (p := ⟨z, 2, none⟩) hz c
/-- The end of Open: three results, the second in a cell. -/
theorem open_post {F : World} {z : Nat} {p a b c : Value} {n : Int} {R : Ending → World → Prop} {tm : Array Value} (r : F.heap[z]? = some (.cells #[a, b, c] 27 (0, 0))) (h2 : tm[2]?.getD undef = p) (h3 : tm[3]?.getD undef = .pointer (some ⟨z, 0, none⟩)) (h4 : tm[4]?.getD undef = .int .i64 n)
    (h : R (.returned (.tuple #[p, .agg #[a, b, c], .int .i64 n])) F) : bodyPost Tryz.prog Tryz.f17 R Exit.ret { tmps := tm, defers := [] } F := by
  have k0 : F.cell? ⟨z, 0, none⟩ = some a := by rw [cell_of_row _ _ _ _ _ _ r]; rfl
  have k1 : F.cell? ⟨z, 1, none⟩ = some b := by rw [cell_of_row _ _ _ _ _ _ r]; rfl
  have k2 : F.cell? ⟨z, 2, none⟩ = some c := by rw [cell_of_row _ _ _ _ _ _ r]; rfl
  refine bodyPost_ret (v := .tuple #[p, .agg #[a, b, c], .int .i64 n]) ?_ rfl h
  simp [results, Tryz.results17, go_sem, k0, k1, k2, h2, h3, h4]
set_option maxRecDepth 10000 in
set_option maxHeartbeats 1000000 in
theorem Open_bad (p : Value) (w : World) (hg : ∀ W, Ext [] w W → Calls Tryz.prog 41 #[p] W fun e w' => e = .returned (.int .i64 1) ∧ W = w') (hp : p = .pointer none ∨ ∃ a, p = .pointer (some a)) :
    Calls Tryz.prog 17 #[p] w fun e w' => e = .returned (.tuple #[.pointer none, .agg #[.int .i64 0, .int .i64 0, .slice none 0 0], .int .i64 1]) ∧ Ext [] w w' := by
  have hr := Read_bad p .wal (w.alloc (.cells #[.int .i64 0, .int .i64 0, .slice none 0 0] 27)) (hg _ ((Ext.refl [] w).alloc _)) hp
  change Calls Tryz.prog 36 #[p, .string ⟨#[119, 97, 108]⟩] _ _ at hr
  have HR := Lib.hid hr
  clear hr hg
  rcases hp with rfl | ⟨a, rfl⟩
  all_goals
    go_enter Tryz.func17, Tryz.ntmps17
    go_wp2_with (go_at_call 36; refine HR.out.mono ?_; rintro e w2 ⟨rfl, rfl⟩)
    refine open_post (heap_alloc_new w _) rfl rfl rfl ⟨rfl, (Ext.refl [] w).alloc _⟩
set_option maxRecDepth 10000 in
set_option maxHeartbeats 800000 in
theorem Open_off {w : World} {d m : Nat} {k : Dk} (hd : DiskAt w d m k) (hoff : k.off = true) (h1 : (k.get .wal).b.length ≤ 1099511627776) :
    Calls Tryz.prog 17 #[.pointer (some ⟨d, 0, none⟩)] w fun e w' => e = .returned (.tuple #[.pointer none, .agg #[.int .i64 0, .int .i64 0, .slice none 0 0], .int .i64 250]) ∧ Ext [] w w' := by
  have X1 : Ext [] w (w.alloc (.cells #[.int .i64 0, .int .i64 0, .slice none 0 0] 27)) := (Ext.refl [] w).alloc _
  have hr := Read_disk_calls (hd.nil X1) .wal h1
  have he : k.errAt .wal = 250 := by simp [Dk.errAt, hoff]
  rw [he] at hr
  change Calls Tryz.prog 36 #[.pointer (some ⟨d, 0, none⟩), .string ⟨#[119, 97, 108]⟩] _ _ at hr
  have HR := Lib.hid hr
  clear hr
  go_enter Tryz.func17, Tryz.ntmps17
  go_wp2_with (go_at_call 36; refine HR.out.mono ?_; rintro e w2 ⟨v2, rfl, _, x2⟩; obtain ⟨hc2, hf2⟩ := Ext.cells x2)
  have r2 : w2.heap[w.heap.size]? = some (.cells #[.int .i64 0, .int .i64 0, .slice none 0 0] 27 (0, 0)) := x2.heap (heap_alloc_new w _)
  refine open_post (row3 r2 _ _ _) rfl rfl rfl ⟨rfl, (X1.trans x2).row3 (.inr (Nat.le_refl _)) _ _ _⟩
end Go.Proofs.YtipbfmalacnmkaaGreat
