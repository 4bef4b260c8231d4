/- The statements' world: what it holds in memory, where the disk goes and where the power has failed. -/
import Derived.Test.YtipbfmalacnmkaaGreatCrash
import Derived.Test.YtipbfmalacnmkaaGreatKeep2
namespace Go.Proofs.YtipbfmalacnmkaaGreat
open Go.RowKit Go.Shelf

/-- The world's nine cells, in block x. -/
def XRow (w : World) (x d : Nat) (wv : Value) (s : Sv) (sv : Value) (p : Sv) (pv : Value) (sm : Bool) : Prop :=
  w.heap[x]? = some (.cells #[.pointer (some ⟨d, 0, none⟩), wv, .int .i64 s.term, .int .i64 s.vote, sv, .int .i64 p.term, .int .i64 p.vote, pv, .bool sm] 35 (0, 0))
structure XFacts (w : World) (x d : Nat) (wv : Value) (s : Sv) (sv : Value) (p : Sv) (pv : Value) (sm : Bool) : Prop where
  c0 : w.cell? ⟨x, 0, none⟩ = some (.pointer (some ⟨d, 0, none⟩))
  c1 : w.cell? ⟨x, 1, none⟩ = some wv
  c2 : w.cell? ⟨x, 2, none⟩ = some (.int .i64 s.term)
  c3 : w.cell? ⟨x, 3, none⟩ = some (.int .i64 s.vote)
  c4 : w.cell? ⟨x, 4, none⟩ = some sv
  c5 : w.cell? ⟨x, 5, none⟩ = some (.int .i64 p.term)
  c6 : w.cell? ⟨x, 6, none⟩ = some (.int .i64 p.vote)
  c7 : w.cell? ⟨x, 7, none⟩ = some pv
  c8 : w.cell? ⟨x, 8, none⟩ = some (.bool sm)
  fz : ∀ o, w.frozen? ⟨x, o, none⟩ = false
section
variable {w w' : World} {x d : Nat} {wv sv pv : Value} {s p : Sv} {sm : Bool}
theorem XRow.facts (h : XRow w x d wv s sv p pv sm) : XFacts w x d wv s sv p pv sm :=
  ⟨by rw [cell_of_row _ _ _ _ _ _ h]; rfl, by rw [cell_of_row _ _ _ _ _ _ h]; rfl, by rw [cell_of_row _ _ _ _ _ _ h]; rfl, by rw [cell_of_row _ _ _ _ _ _ h]; rfl, by rw [cell_of_row _ _ _ _ _ _ h]; rfl,
   by rw [cell_of_row _ _ _ _ _ _ h]; rfl, by rw [cell_of_row _ _ _ _ _ _ h]; rfl, by rw [cell_of_row _ _ _ _ _ _ h]; rfl, by rw [cell_of_row _ _ _ _ _ _ h]; rfl, fun o => frozen_of_row _ _ _ _ _ h⟩
theorem XRow.lt (h : XRow w x d wv s sv p pv sm) : x < w.heap.size := (Array.getElem?_eq_some_iff.1 h).1
theorem XRow.ext {M : List Nat} (h : XRow w x d wv s sv p pv sm) (hx : Ext M w w') (hm : x ∉ M) : XRow w' x d wv s sv p pv sm := (hx.block x h.lt hm).trans h
theorem XRow.notCells {t : Nat} (h : XRow w x d wv s sv p pv sm) (ht : t ≠ 35) : ∀ cur fz, w.heap[x]? ≠ some (.cells cur t fz) := by
  intro cur fz hc
  unfold XRow at h
  rw [h] at hc
  cases hc
  exact ht rfl
theorem XRow.ne_wal {g d' sz : Nat} {T V : Int} {lv : Value} {down : Bool} (h : XRow w x d wv s sv p pv sm) (hw : WalRow w g d' T V lv sz down) : x ≠ g := by
  rintro rfl
  unfold XRow at h
  unfold WalRow at hw
  rw [h] at hw
  cases hw
theorem XRow.ne_disk {d' m : Nat} {k : Dk} (h : XRow w x d wv s sv p pv sm) (hd : DiskAt w d' m k) : x ≠ d' ∧ x ≠ m := by
  obtain ⟨gm, hrow, hmap, _⟩ := hd
  constructor
  · rintro rfl; unfold XRow at h; rw [h] at hrow; cases hrow
  · rintro rfl; obtain ⟨es, clock, hblk⟩ := hmap.block; unfold XRow at h; rw [h] at hblk; cases hblk
end

/-- The world x, its blocks from B on; the wal's cell is wv. -/
structure XBase (B : Nat) (w : World) (x d m : Nat) (k : Dk) (wv : Value) (s : Sv) (sv : Value) (p : Sv) (pv : Value) (sm : Bool) : Prop where
  row : XRow w x d wv s sv p pv sm
  disk : DiskAt w d m k
  base : Base k
  bx : B ≤ x
  bd : B ≤ d
  bm : B ≤ m
  rs : RdE w.heap.size w sv s.log
  rp : RdE w.heap.size w pv p.log
  ms : mayB s = true
theorem XBase.nil {B x d m : Nat} {w w' : World} {k : Dk} {wv sv pv : Value} {s p : Sv} {sm : Bool} (h : XBase B w x d m k wv s sv p pv sm) (hx : Ext [] w w') : XBase B w' x d m k wv s sv p pv sm :=
  ⟨h.row.ext hx (by simp), h.disk.nil hx, h.base, h.bx, h.bd, h.bm, RdE.mono (RdE.ext h.rs hx) hx.size, RdE.mono (RdE.ext h.rp hx) hx.size, h.ms⟩

/-- The disk goes, and the wal that is open tells s. -/
structure XWal (B : Nat) (w : World) (x d m g : Nat) (k : Dk) (s : Sv) (sv : Value) (p : Sv) (pv lv : Value) (sm : Bool) : Prop where
  xb : XBase B w x d m k (.pointer (some ⟨g, 0, none⟩)) s sv p pv sm
  on : On k s
  bg : B ≤ g
  wal : WalRow w g d s.term s.vote lv (k.get .wal).b.length false
  rl : RdE w.heap.size w lv s.log
theorem XWal.nil {B x d m g : Nat} {w w' : World} {k : Dk} {sv pv lv : Value} {s p : Sv} {sm : Bool} (h : XWal B w x d m g k s sv p pv lv sm) (hx : Ext [] w w') : XWal B w' x d m g k s sv p pv lv sm :=
  ⟨h.xb.nil hx, h.on, h.bg, h.wal.ext hx (by simp), RdE.mono (RdE.ext h.rl hx) hx.size⟩
def XOn (B : Nat) (w : World) (x : Nat) (k : Dk) (s : Sv) : Prop := ∃ d m g sv p pv lv, XWal B w x d m g k s sv p pv lv false
theorem XOn.nil {B x : Nat} {w w' : World} {k : Dk} {s : Sv} (h : XOn B w x k s) (hx : Ext [] w w') : XOn B w' x k s := by
  obtain ⟨d, m, g, sv, p, pv, lv, h⟩ := h
  exact ⟨d, m, g, sv, p, pv, lv, h.nil hx⟩
def Told (s p : Sv) (sm : Bool) (t : Sv) : Prop := t = s ∨ (sm = true ∧ t = p)
/-- The power has failed, no wal is open: what is told next is s, or p, where something is told perhaps. -/
def XOff (B : Nat) (w : World) (x : Nat) (s p : Sv) (sm : Bool) : Prop :=
  ∃ d m k sv pv, XBase B w x d m k (.pointer none) s sv p pv sm ∧ k.off = true ∧ Holds k (Told s p sm)
theorem XOff.nil {B x : Nat} {w w' : World} {s p : Sv} {sm : Bool} (h : XOff B w x s p sm) (hx : Ext [] w w') : XOff B w' x s p sm := by
  obtain ⟨d, m, k, sv, pv, h, r⟩ := h
  exact ⟨d, m, k, sv, pv, h.nil hx, r⟩
/-- The disk goes, whatever wal is open: what is told next is s, or p. -/
def XReady (B : Nat) (w : World) (x : Nat) (k : Dk) (s p : Sv) (sm : Bool) : Prop :=
  ∃ d m wv sv pv, XBase B w x d m k wv s sv p pv sm ∧ (wv = .pointer none ∨ ∃ g, wv = .pointer (some ⟨g, 0, none⟩)) ∧ k.off = false ∧ (k.get .wal).last = (k.get .wal).b.length ∧ OkF (k.get .wal).b (Told s p sm)
theorem XOn.ready {B x : Nat} {w : World} {k : Dk} {s : Sv} (h : XOn B w x k s) : ∃ p, XReady B w x k s p false := by
  obtain ⟨d, m, g, sv, p, pv, lv, h⟩ := h
  exact ⟨p, d, m, _, sv, pv, h.xb, .inr ⟨g, rfl⟩, h.on.on, h.on.last, s, .inl rfl, .inl h.on.good⟩
theorem Crashed.calm {k k' : Dk} (h : Crashed k k') : k'.fuse = -1 := h.2.1

/-! ### nothing fails where there is no fuse -/
def Calm (k : Dk) : Prop := k.off = false ∧ k.fuse = -1
theorem Calm.burnt {k : Dk} (h : Calm k) : Calm k.burnt := by
  unfold Dk.burnt Calm
  rw [h.2]
  exact ⟨h.1, rfl⟩
theorem Calm.append {k : Dk} (h : Calm k) (x : Nm) (b : List UInt8) : Calm (k.append x b).2 := by
  unfold Dk.append
  rw [h.1, h.2]
  exact h.burnt
theorem Calm.sync {k : Dk} (h : Calm k) (x : Nm) : Calm (k.sync x).2 := by
  unfold Dk.sync
  rw [h.2]
  split
  · exact h
  · exact h.burnt
theorem Calm.rename {k : Dk} (h : Calm k) (x y : Nm) : Calm (k.rename x y).2 := by
  unfold Dk.rename
  rw [h.2]
  split
  · exact h
  · exact h.burnt
theorem Calm.remove {k : Dk} (h : Calm k) (x : Nm) : Calm (k.remove x).2 := by
  unfold Dk.remove
  rw [h.2]
  split
  · exact h
  · exact h.burnt
theorem Calm.clear {k : Dk} (h : Calm k) : Calm k.clear.2 := by
  unfold Dk.clear
  split
  · exact h.remove _
  · exact h.remove _
theorem Calm.andThen {r : Int × Dk} {f : Dk → Int × Dk} (h : Calm r.2) (hf : ∀ k, Calm k → Calm (f k).2) : Calm (Dk.andThen r f).2 := by
  unfold Dk.andThen
  split
  · exact hf _ h
  · exact h
theorem Calm.anew {k : Dk} (h : Calm k) (b : List UInt8) : Calm (k.anew b).2 :=
  Calm.andThen (Calm.andThen (Calm.andThen h.clear (fun _ h => h.append _ _)) (fun _ h => h.sync _)) (fun _ h => h.rename _ _)
theorem Calm.more {k : Dk} (h : Calm k) (b : List UInt8) : Calm (k.more b).2 := Calm.andThen (h.append _ _) (fun _ h => h.sync _)
theorem Calm.kept {k : Dk} (h : Calm k) (sz : Nat) (was s : Sv) : Calm (k.kept sz was s).2 := by
  unfold Dk.kept
  split
  · exact h.anew _
  · split
    · exact h.more _
    · exact h
theorem Calm.opened {k : Dk} (h : Calm k) (q : List UInt8) (s : Sv) : Calm (k.opened q s).2 := by
  unfold Dk.opened
  split
  · exact h.clear
  · exact h.anew _
end Go.Proofs.YtipbfmalacnmkaaGreat
