/- The disk's map of files: three names, and what stands at each. -/
import Derived.Test.YtipbfmalacnmkaaGreatFrame1
import Derived.Maps.OwnSet
import Derived.Maps.Views
namespace Go.Proofs.YtipbfmalacnmkaaGreat
open Go.RowKit

inductive Nm where
  | other | wal | new
  deriving DecidableEq
def Nm.bytes : Nm → List UInt8
  | .other => [111, 116, 104, 101, 114]
  | .wal => [119, 97, 108]
  | .new => [119, 97, 108, 46, 110, 101, 119]
def Nm.str (x : Nm) : Value := .string ⟨x.bytes.toArray⟩
def Nm.lit (x : Nm) : Lit := .string x.bytes

abbrev DW := DataW Value
def RV (v : Value) : Option (DW × List MemPlace) := some (.held v, [])
def ent (x : Nm) : Option Value → List (Lit × DW)
  | some v => [(x.lit, .held v)]
  | none => []
def mkD (g : Nm → Option Value) : DW := .map (ent .other (g .other) ++ (ent .wal (g .wal) ++ ent .new (g .new)))
def upd {α : Type} (g : Nm → α) (x : Nm) (a : α) : Nm → α := fun y => if y = x then a else g y
theorem upd_same {α : Type} (g : Nm → α) (x : Nm) (a : α) : upd g x a x = a := by simp [upd]
theorem upd_ne {α : Type} (g : Nm → α) (x y : Nm) (a : α) (h : y ≠ x) : upd g x a y = g y := by simp [upd, h]

theorem mkD_put (g : Nm → Option Value) (x : Nm) (v : Value) : (mkD g).put x.lit (.held v) = mkD (upd g x (some v)) := by
  unfold mkD
  cases x <;> simp only [upd, reduceCtorEq, if_true, if_false] <;> cases g .other <;> cases g .wal <;> cases g .new <;> rfl
theorem mkD_del (g : Nm → Option Value) (x : Nm) : (mkD g).del x.lit = mkD (upd g x none) := by
  unfold mkD
  cases x <;> simp only [upd, reduceCtorEq, if_true, if_false] <;> cases g .other <;> cases g .wal <;> cases g .new <;> rfl
theorem mkD_at (g : Nm → Option Value) (x : Nm) (z : Value) : (mkD g).atKey x.lit (.held z) = .held ((g x).getD z) := by
  unfold mkD
  cases x <;> cases g .other <;> cases g .wal <;> cases g .new <;> rfl
theorem mkD_has (g : Nm → Option Value) (x : Nm) : Maps.has (mkD g) x.lit = (g x).isSome := by
  unfold mkD
  cases x <;> cases g .other <;> cases g .wal <;> cases g .new <;> rfl
theorem mkD_size (g : Nm → Option Value) : Maps.size (mkD g) ≤ 3 := by
  unfold mkD
  cases g .other <;> cases g .wal <;> cases g .new <;> simp [ent, Maps.size]

theorem zero80 (w : World) : (zeroValue 80).run Tryz.prog w = .ok (.agg #[.slice none 0 0, .int .i64 0]) w := Tryz.zeroValue80 w
theorem key9 : Maps.Keyed Tryz.prog 9 := Maps.string_keyed Tryz.underlying9
theorem key_nm (x : Nm) : keyOf Tryz.prog 9 x.str = some x.lit := by
  have := WideMaps.keyOf_string_mk Tryz.underlying9 (s := ⟨x.bytes.toArray⟩) (by cases x <;> decide)
  simpa [Nm.str, Nm.lit] using this

def MapAt (w : World) (m : Nat) (g : Nm → Option Value) : Prop := w.ownsMap Tryz.prog 9 RV m 3 (mkD g)
section
variable {w : World} {m n : Nat} {g : Nm → Option Value}
theorem MapAt.of_owns (h : w.ownsMap Tryz.prog 9 RV m n (mkD g)) : MapAt w m g := by
  obtain ⟨es, clock, hb, F, hs, hD⟩ := h
  have := mkD_size g
  rw [hD] at this
  simp only [Maps.size, length_sorted, List.length_map, Array.length_toList] at this
  exact ⟨es, clock, hb, F, this, hD⟩
theorem MapAt.lt (h : MapAt w m g) : m < w.heap.size := World.ownsMap.lt h
theorem MapAt.block (h : MapAt w m g) : ∃ es clock, w.heap[m]? = some (.map es clock) := by
  obtain ⟨es, clock, hb, _⟩ := h
  exact ⟨es, clock, hb⟩
theorem MapAt.of_heap {w' : World} (h : MapAt w m g) (hh : w'.heap[m]? = w.heap[m]?) : MapAt w' m g := by
  obtain ⟨es, clock, hb, r⟩ := h
  exact ⟨es, clock, hh.trans hb, r⟩
theorem MapAt.look (h : MapAt w m g) (x : Nm) : (Instr.lookup 46 (.map (some m)) x.str false).run Tryz.prog w = .ok ((g x).getD (.agg #[.slice none 0 0, .int .i64 0])) w := by
  obtain ⟨v, ps, hr, hv⟩ := World.ownsMap.lookup h key9 Tryz.underlying46 (zero80 w) (zd := .held (.agg #[.slice none 0 0, .int .i64 0])) (zp := []) rfl (key_nm x)
  rw [mkD_at] at hv
  simp only [RV, Option.some.injEq, Prod.mk.injEq, DataW.held.injEq] at hv
  rw [hr, hv.1]
theorem MapAt.look2 (h : MapAt w m g) (x : Nm) : (Instr.lookup 46 (.map (some m)) x.str true).run Tryz.prog w = .ok (.tuple #[(g x).getD (.agg #[.slice none 0 0, .int .i64 0]), .bool (g x).isSome]) w := by
  obtain ⟨v, ps, hr, hv⟩ := World.ownsMap.look_ok h key9 Tryz.underlying46 (zero80 w) (zd := .held (.agg #[.slice none 0 0, .int .i64 0])) (zp := []) rfl (key_nm x)
  rw [mkD_at] at hv
  simp only [RV, Option.some.injEq, Prod.mk.injEq, DataW.held.injEq] at hv
  rw [hr, hv.1, mkD_has]
theorem Ext.of_grown {w' : World} (h : w.grownBy w' (some m)) : Ext [m] w w' := (Ext.refl [m] w).grown h (by simp)
theorem MapAt.store (h : MapAt w m g) (x : Nm) (v : Value) : ∃ w', (Instr.mapUpdate 46 (.map (some m)) x.str v).run Tryz.prog w = .ok () w' ∧ MapAt w' m (upd g x (some v)) ∧ Ext [m] w w' := by
  obtain ⟨w', hr, h1, h2⟩ := World.ownsMap.update h key9 Tryz.underlying46 (by unfold maxLen; omega) (key_nm x) (val := v) rfl
  rw [mkD_put] at h1
  exact ⟨w', hr, .of_owns h1, .of_grown h2⟩
theorem MapAt.drop (h : MapAt w m g) (x : Nm) (ty : TypeId) : ∃ w', (Builtin.delete_ #[46, 9] ty #[.map (some m), x.str]).run Tryz.prog w = .ok (.tuple #[]) w' ∧ MapAt w' m (upd g x none) ∧ Ext [m] w w' := by
  obtain ⟨w', hr, h1, h2⟩ := World.ownsMap.drop h key9 Tryz.underlying46 (key_nm x) ty
  rw [mkD_del] at h1
  exact ⟨w', hr, .of_owns h1, .of_grown h2.grown⟩
end
end Go.Proofs.YtipbfmalacnmkaaGreat
