/- The words of this seat over its program: bytes and entries in memory, and the laws for append at their types. No condition. -/
import Derived.Test.YtipbfmalacnmkaaGreatProg
import Derived.Test.YtipbfmalacnmkaaGreatLib
namespace Go.Proofs.YtipbfmalacnmkaaGreat
open Go.RowKit

/-- A byte in its cell. -/
def bv (u : UInt8) : Value := .int .u8 (u.toNat : Int)
def bvs (l : List UInt8) : List Value := l.map bv
@[simp] theorem bvs_length (l : List UInt8) : (bvs l).length = l.length := by simp [bvs]
theorem bvs_append (l m : List UInt8) : bvs (l ++ m) = bvs l ++ bvs m := by simp [bvs]
theorem bvs_one (l : List UInt8) : ∀ u ∈ bvs l, u.oneCell' = true := by
  intro u hu
  obtain ⟨_, _, rfl⟩ := List.mem_map.1 hu
  rfl
theorem bvs_get (l : List UInt8) (j : Nat) (h : j < l.length) : (bvs l)[j]? = some (.int .u8 (l[j].toNat : Int)) := by
  simp [bvs, bv, h]

theorem Tryz.infoB : (Tryz.prog.info? 5).map (fun i => (i.zero, i.size, i.bytes)) = some (some (.int .u8 0), 1, 1) := by kernel_rfl
theorem Tryz.infoE : (Tryz.prog.info? 29).map (fun i => (i.zero, i.size, i.bytes)) = some (some (.agg #[.int .i64 0, .string ⟨#[]⟩]), 2, 24) := by kernel_rfl

/-- Bytes that the call itself owns, from block `base` on. -/
def OwnB (w : World) (base : Nat) (v : Value) (l : List UInt8) : Prop := w.ownsRow base 5 1 v l.length (bvs l)
/-- Bytes that can be read, in a block below B. -/
def RdB (B : Nat) (w : World) (v : Value) (l : List UInt8) : Prop := Rd B w 5 1 v l.length (bvs l)

theorem OwnB.nil (w : World) (base : Nat) : OwnB w base (.slice none 0 0) [] := World.ownsRow_nil w base 5 1
theorem OwnB.rd {w : World} {base : Nat} {v : Value} {l : List UInt8} (h : OwnB w base v l) : RdB w.heap.size w v l := Rd.of_own h
theorem OwnB.lt {w : World} {base : Nat} {v : Value} {l : List UInt8} (h : OwnB w base v l) : ∀ k, v.ownBlock = some k → base ≤ k ∧ k < w.heap.size := World.ownsRow.lt h
theorem OwnB.lower {w : World} {base base' : Nat} {v : Value} {l : List UInt8} (h : OwnB w base v l) (hb : base' ≤ base) : OwnB w base' v l := by
  obtain ⟨h1, h2⟩ := h
  refine ⟨h1, h2.imp id ?_⟩
  rintro ⟨g, cap, cur, h3, h4, r⟩
  exact ⟨g, cap, cur, h3, by omega, r⟩
theorem OwnB.ext {w w' : World} {base : Nat} {v : Value} {l : List UInt8} (h : OwnB w base v l) (hx : Ext [] w w') : OwnB w' base v l := by
  obtain ⟨h1, h2⟩ := h
  refine ⟨h1, h2.imp id ?_⟩
  rintro ⟨g, cap, cur, h3, h4, h5, r⟩
  exact ⟨g, cap, cur, h3, h4, hx.heap h5, r⟩
theorem OwnB.kept {w w' : World} {base : Nat} {v : Value} {l : List UInt8} (h : OwnB w base v l) {row : Option Nat} (hg : w.grownBy w' row) (hne : v.ownBlock = none ∨ v.ownBlock ≠ row) : OwnB w' base v l := World.ownsRow.kept h hg hne
theorem OwnB.alloc {w : World} {base : Nat} {v : Value} {l : List UInt8} (h : OwnB w base v l) (o : Obj) : OwnB (w.alloc o) base v l := World.ownsRow.alloc h o
theorem OwnB.belowS {w w' : World} {base : Nat} {v : Value} {l : List UInt8} (h : OwnB w base v l) (hx : Below w.heap.size w w') : OwnB w' base v l := h.ext (Ext.of_below hx)
theorem RdB.belowS {B : Nat} {w w' : World} {v : Value} {l : List UInt8} (h : RdB B w v l) (hx : Below w.heap.size w w') : RdB B w' v l := Rd.ext h (Ext.of_below hx)
theorem RdB.src {B : Nat} {w : World} {v : Value} {l : List UInt8} (h : RdB B w v l) : Src Tryz.prog 1 30 v l.length (bvs l) w := Rd.src Tryz.underlying30 h (bvs_one l)
theorem RdB.ext {B : Nat} {w w' : World} {v : Value} {l : List UInt8} (h : RdB B w v l) (hx : Ext [] w w') : RdB B w' v l := Rd.ext h hx
theorem RdB.below {B : Nat} {w w' : World} {v : Value} {l : List UInt8} (h : RdB B w v l) (hx : Below B w w') : RdB B w' v l := Rd.below h hx
theorem RdB.mono {B B' : Nat} {w : World} {v : Value} {l : List UInt8} (h : RdB B w v l) (hB : B ≤ B') : RdB B' w v l := Rd.mono h hB
/-- A part of bytes: from lo to hi. -/
theorem RdB.part {B : Nat} {w : World} {b off n cap : Nat} {l : List UInt8} (hn : l.length = n) (h : RdB B w (.slice (some ⟨b, off, none⟩) n cap) l) (lo hi cap' : Nat) (h1 : lo ≤ hi) (h2 : hi ≤ n) (hc : hi - lo ≤ cap') (hc2 : cap' ≤ maxLen) :
    RdB B w (.slice (some ⟨b, off + lo, none⟩) (hi - lo) cap') ((l.drop lo).take (hi - lo)) := by
  subst hn
  have h0 := Rd.part h lo hi cap' h1 h2 hc hc2
  have e : ((l.drop lo).take (hi - lo)).length = hi - lo := by simp; omega
  unfold RdB
  rw [e]
  simpa [bvs, List.map_take, List.map_drop] using h0
theorem RdB.sliced {B : Nat} {w : World} {a : Option Addr} {n cap : Nat} {l : List UInt8} (hn : l.length = n) (h : RdB B w (.slice a n cap) l) (lo hi m : Nat) (h1 : lo ≤ hi) (h2 : hi ≤ n) (hm : hi ≤ m) (hm2 : m ≤ cap) :
    RdB B w (Go.sliced a lo hi m 1) ((l.drop lo).take (hi - lo)) := by
  subst hn
  have h0 := Rd.sliced h lo hi m h1 h2 hm hm2
  have e : ((l.drop lo).take (hi - lo)).length = hi - lo := by simp; omega
  unfold RdB
  rw [e]
  simpa [bvs, List.map_take, List.map_drop] using h0
theorem run_size5 (w : World) : (sizeOf 5).run Tryz.prog w = .ok 1 w := by kernel_rfl
theorem elem30 : Tryz.prog.elem 30 = 5 := by kernel_rfl
theorem under30 : Tryz.prog.underlying 30 = some (.slice (Tryz.prog.elem 30)) := by rw [elem30]; exact Tryz.underlying30
theorem strOfNums_bytes (l : List UInt8) : strOfNums (l.map fun u => (u.toNat : Int)) = ⟨l.toArray⟩ := by
  unfold strOfNums
  rw [List.map_map]
  have e : l.map ((fun n : Int => UInt8.ofNat n.toNat) ∘ fun u : UInt8 => (u.toNat : Int)) = l := by
    conv => rhs; rw [← List.map_id l]
    apply List.map_congr_left
    intro u _
    simp
  rw [e]
/-- b[lo:hi]: some value that reads as that part, in whatever world the operation runs. -/
theorem RdB.slice_lh {B : Nat} {w : World} {a : Option Addr} {n cap : Nat} {l : List UInt8} (hn : l.length = n) (h : RdB B w (.slice a n cap) l) (lo hi : Nat) (h1 : lo ≤ hi) (h2 : hi ≤ n) :
    ∃ a' c', (∀ (x y : Int), x = lo → y = hi → ∀ W, (Instr.slice 30 (.slice a n cap) (some (.int .i64 x)) (some (.int .i64 y)) none).run Tryz.prog W = .ok (.slice a' (hi - lo) c') W) ∧ RdB B w (.slice a' (hi - lo) c') ((l.drop lo).take (hi - lo)) := by
  subst hn
  obtain ⟨_, _, e, hc, _⟩ := Rd.shape h
  cases e
  refine ⟨_, _, ?_, RdB.sliced rfl h lo hi cap h1 h2 (by omega) (Nat.le_refl _)⟩
  rintro x y rfl rfl W
  rw [run_slice_lh W 30 a l.length cap under30 .i64 .i64 lo hi (by omega) (by omega) (by omega), elem30, run_size5]
  rfl
theorem RdB.slice_l {B : Nat} {w : World} {a : Option Addr} {n cap : Nat} {l : List UInt8} (hn : l.length = n) (h : RdB B w (.slice a n cap) l) (lo : Nat) (h2 : lo ≤ n) :
    ∃ a' c', (∀ (x : Int), x = lo → ∀ W, (Instr.slice 30 (.slice a n cap) (some (.int .i64 x)) none none).run Tryz.prog W = .ok (.slice a' (n - lo) c') W) ∧ RdB B w (.slice a' (n - lo) c') (l.drop lo) := by
  subst hn
  obtain ⟨_, _, e, hc, _⟩ := Rd.shape h
  cases e
  have h0 := RdB.sliced rfl h lo l.length cap h2 (Nat.le_refl _) (by omega) (Nat.le_refl _)
  rw [List.take_of_length_le (by simp)] at h0
  refine ⟨_, _, ?_, h0⟩
  rintro x rfl W
  rw [run_slice_l W 30 a l.length cap under30 .i64 lo (by omega) (by omega), elem30, run_size5]
  rfl
theorem RdB.slice_h {B : Nat} {w : World} {a : Option Addr} {n cap : Nat} {l : List UInt8} (hn : l.length = n) (h : RdB B w (.slice a n cap) l) (hi : Nat) (h2 : hi ≤ n) :
    ∃ a' c', (∀ (y : Int), y = hi → ∀ W, (Instr.slice 30 (.slice a n cap) none (some (.int .i64 y)) none).run Tryz.prog W = .ok (.slice a' hi c') W) ∧ RdB B w (.slice a' hi c') (l.take hi) := by
  subst hn
  obtain ⟨_, _, e, hc, _⟩ := Rd.shape h
  cases e
  have h0 := RdB.sliced rfl h 0 hi cap (Nat.zero_le _) h2 (by omega) (Nat.le_refl _)
  simp only [List.drop_zero, Nat.sub_zero] at h0
  refine ⟨_, _, ?_, h0⟩
  rintro y rfl W
  rw [run_slice_h W 30 a l.length cap under30 .i64 hi (by omega) (by omega), elem30, run_size5]
  rfl
/-- string(b). -/
theorem RdB.toStr {B : Nat} {w : World} {v : Value} {l : List UInt8} (h : RdB B w v l) : (convert 30 9 v).run Tryz.prog w = .ok (.string ⟨l.toArray⟩) w := by
  obtain ⟨a, cap, rfl, h2, h3, h4, h5⟩ := h
  rcases h5 with h5 | ⟨b, off, cur, fz, rfl, hb, ⟨t, _, hh⟩, ht⟩
  · have hl : l = [] := List.eq_nil_of_length_eq_zero h5
    subst hl
    cases a with
    | none => exact run_convert_bytes_nil w 30 5 Tryz.underlying30 Tryz.underlying5 _ _ 9 Tryz.underlying9
    | some a =>
      rw [run_convert_bytes_string w 30 9 5 _ _ _ Tryz.underlying30 Tryz.underlying5 Tryz.underlying9]
      exact run_bytesToString w a 0 cap [] (by simp [loadCells, loadCellsFrom])
  · have hcell : ∀ i, i < l.length → w.cell? ⟨b, off + i, none⟩ = some (.int .u8 ((l.map fun u => (u.toNat : Int)).getD i 0)) := by
      intro i hi
      rw [cell_of_row w b (off + i) cur t fz hh, ← Array.getElem?_toList, take_drop_getElem? ht (by omega), bvs_get _ _ hi]
      simp [hi]
    have hr := run_convert_bytes_arg (P := Tryz.prog) w 30 5 Tryz.underlying30 Tryz.underlying5 b off l.length cap _ (by simp) hcell 9 Tryz.underlying9
    rw [hr, strOfNums_bytes]
theorem Src.str (w : World) (s : ByteArray) : Src Tryz.prog 1 9 (.string s) s.data.toList.length (bvs s.data.toList) w := by
  have h := Src.ofString (P := Tryz.prog) w Tryz.underlying9 s
  have e : s.data.toList.length = s.size := by rw [Array.length_toList]; rfl
  rw [e]
  exact h

theorem wpList_app {ops : Array Oper} {rest : List Oper} {o : Oper} {a : Act} {Q : Exit → Act → World → Prop} (w : World) (hgd : o.guard = none) (s x : Operand) (tx : TypeId)
    (ho : o.op = .call { callee := .builtin .append, args := #[s, x], argTypes := #[30, tx] }) (base : Nat) (v : Value) (l : List UInt8) (hs : a.eval s = v) (hown : OwnB w base v l)
    (xv : Value) (m : List UInt8) (hx : a.eval x = xv) (hsrc : Src Tryz.prog 1 tx xv m.length (bvs m) w) (hsz : l.length + m.length ≤ 140737488355328) (hbase : base ≤ w.heap.size)
    (h : ∀ v' w', OwnB w' base v' (l ++ m) → w.grownBy w' v.ownBlock → wpList Tryz.prog ops Q rest (a.put o.dst v') w') : wpList Tryz.prog ops Q (o :: rest) a w := by
  obtain ⟨i, hi, hz, h1, h2⟩ := info_parts Tryz.infoB
  obtain ⟨v', w', hr, hown', hg⟩ := run_append_own_src (P := Tryz.prog) w base 30 tx o.type 5 i _ 1 1 Tryz.underlying30 hi hz h1 h2 rfl v l.length (bvs l) hown xv m.length (bvs m) hsrc (by unfold maxLen; omega) (by omega) hbase
  refine wpList_plain hgd fun K hK => ?_
  unfold Oper.wp execOp
  simp only [ho, resolve, invoke, builtin, Sem.run_bind, Sem.run_pure, Result.andThen_ok, List.map_toArray, List.map_cons, List.map_nil, hs, hx, hr]
  refine hK _ _ (h v' w' ?_ hg)
  unfold OwnB
  rw [List.length_append, bvs_append]
  exact hown'
end Go.Proofs.YtipbfmalacnmkaaGreat
