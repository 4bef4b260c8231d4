/- What begin and awake return. -/
import Derived.Test.YtipbfmalacnmkaaGreatWkeep
import Derived.Lib.SlBytesConst
namespace Go.Proofs.YtipbfmalacnmkaaGreat
open Go.RowKit Go.Shelf

/-- The disk behind begin's two changes. -/
def kBegin : Dk := ⟨upd (upd (fun _ => none) Nm.other (some ⟨leftB, 0⟩)) Nm.other (some ⟨leftB, 10⟩), false, -1⟩
def kNew : Dk := ⟨fun _ => none, false, -1⟩
def kApp : Dk := ⟨upd (fun _ => none) Nm.other (some ⟨leftB, 0⟩), false, -1⟩
theorem kNew_append : kNew.append .other leftB = (0, kApp) := rfl
theorem kApp_sync : kApp.sync .other = (0, kBegin) := rfl
theorem kBegin_base : Base kBegin := ⟨by unfold Dk.fuseOk kBegin; simp, rfl, by decide, by decide, by decide, by decide⟩
def BeginPost (w : World) (e : Ending) (w' : World) : Prop := ∃ x k, e = .returned (.tuple #[.pointer (some ⟨x, 0, none⟩), .bool true]) ∧ XOn w.heap.size w' x k Sv.zero ∧ k.fuse = -1 ∧ Below w.heap.size w w'

set_option maxRecDepth 10000 in
set_option maxHeartbeats 2000000 in
theorem begin_calls (w : World) : Calls Tryz.prog 7 #[] w fun e w' => BeginPost w e w' := by
  have hnw := New_calls w
  have HNW := Lib.hid hnw
  clear hnw
  go_enter Tryz.func7, Tryz.ntmps7
  go_wp2_with fail
  refine HNW.out.mono ?_
  rintro e w1 ⟨rfl, d1, x1⟩
  go_wp2_with fail
  refine (Nothing_calls w1).mono ?_
  rintro e w2 ⟨rfl, b2⟩
  have x2 : Ext [] w1 w2 := Ext.of_below b2
  obtain ⟨W3, hW3⟩ : ∃ W3, W3 = w2.alloc (.cells #[.pointer (some ⟨w.heap.size + 1, 0, none⟩), .pointer none, .int .i64 0, .int .i64 (-1), .slice none 0 0, .int .i64 0, .int .i64 0, .slice none 0 0, .bool false] 35) := ⟨_, rfl⟩
  have x23 : Ext [] w2 W3 := by rw [hW3]; exact (Ext.refl [] w2).alloc _
  have row3 : XRow W3 w2.heap.size (w.heap.size + 1) (.pointer none) Sv.zero (.slice none 0 0) ⟨0, 0, []⟩ (.slice none 0 0) false := by rw [hW3]; exact heap_alloc_new w2 _
  have d3 := d1.nil (x2.trans x23)
  have hlt1 := d1.lt
  have hs2 := x2.size
  change DiskAt W3 (w.heap.size + 1) w.heap.size kNew at d3
  obtain ⟨W4, hW4⟩ : ∃ W4, W4 = W3.alloc (.cells #[.int .u8 108, .int .u8 101, .int .u8 102, .int .u8 116, .int .u8 32, .int .u8 97, .int .u8 108, .int .u8 111, .int .u8 110, .int .u8 101] 5 (10, 11)) := ⟨_, rfl⟩
  have x34 : Ext [] W3 W4 := by rw [hW4]; exact (Ext.refl [] W3).alloc _
  have hrb : RdB W4.heap.size W4 (.slice (some ⟨W3.heap.size, 0, none⟩) 10 10) leftB := by
    rw [hW4]
    exact ⟨_, 10, rfl, rfl, Nat.le_refl _, by unfold maxLen; omega, .inr ⟨W3.heap.size, 0, _, _, rfl, by simp, ⟨_, Kin.refl _, heap_alloc_new W3 _⟩, rfl⟩⟩
  have hap := Append_calls (d3.nil x34) (by unfold Dk.fuseOk kNew; simp) .other _ leftB hrb (by unfold Dk.get kNew Fl.none leftB; simp)
  rw [kNew_append] at hap
  change Calls Tryz.prog 19 #[.pointer (some ⟨w.heap.size + 1, 0, none⟩), .string ⟨#[111, 116, 104, 101, 114]⟩, .slice (some ⟨W3.heap.size, 0, none⟩) 10 10] W4 _ at hap
  have HAP := Lib.hid hap
  have kc := fun (w : World) (C : Array Value) (n c : Nat) => Lib.run_convert_bytes_const (P := Tryz.prog) w 30 5 C n c Tryz.underlying30 Tryz.underlying5
  have row4 := row3.ext x34 (by simp)
  have c0 := row3.facts.c0
  clear hap hrb
  go_upto_region 2 with fail
  rw [← hW3]
  clear hW3
  go_wp2_with fail
  rw [← hW4]
  clear hW4
  refine HAP.out.mono ?_
  rintro e w5 ⟨rfl, d5, x5⟩
  have hx2 : w2.heap.size ∉ [w.heap.size + 1, w.heap.size] := by simp; omega
  have row5 := row4.ext x5 hx2
  have c5 := row5.facts.c0
  have hsy := Sync_calls d5 (by unfold Dk.fuseOk kApp; simp) .other
  rw [kApp_sync] at hsy
  change Calls Tryz.prog 26 #[.pointer (some ⟨w.heap.size + 1, 0, none⟩), .string ⟨#[111, 116, 104, 101, 114]⟩] w5 _ at hsy
  have HSY := Lib.hid hsy
  clear hsy c0
  go_wp2_with fail
  refine HSY.out.mono ?_
  rintro e w6 ⟨rfl, d6, x6⟩
  have row6 := row5.ext x6 hx2
  have hop := wopen_calls (B := w.heap.size) (w := w6) (x := w2.heap.size) (k := kBegin) (s := Sv.zero) (p := ⟨0, 0, []⟩) (sm := false) ⟨w.heap.size + 1, w.heap.size, _, _, _, ⟨row6, d6, kBegin_base, by have := x1.size; omega, by omega, by omega, RdE.nil _ _, RdE.nil _ _, by decide⟩, .inl rfl, rfl, rfl, Sv.zero, .inl rfl, .inl good_zero⟩
  have HOP := Lib.hid hop
  have X6 : Ext [w.heap.size + 1, w.heap.size] w w6 := ((((Ext.refl _ w).cut (M1 := []) x1 (by simp)).cut (M1 := []) (x2.trans x23) (by simp)).cut (M1 := []) x34 (by simp) |>.trans x5).trans x6
  clear hop c5
  go_wp2_with fail
  refine HOP.out.mono ?_
  rintro e w7 ⟨rfl, b7, hor⟩
  rcases hor with ⟨k', s', hon, htold, hfu⟩ | ⟨_, hne⟩
  · rcases htold with rfl | ⟨hf, _⟩
    · have hfu' := hfu rfl
      obtain ⟨d', m', g, sv, p, pv, lv, hw⟩ := id hon
      have c1 := hw.xb.row.facts.c1
      have HW := Lib.hid hw
      have HFU := Lib.hid hfu'
      clear hw hfu hfu'
      go_upto_region 7 with fail
      go_quiet (fail)
      go_wp2_with fail
      go_ret2
      exact ⟨_, k', rfl, hon.nil ((Ext.refl [] w7).drewN _), HFU.out, ((X6.below (Nat.le_refl _) (by simp)).trans b7).trans (((Ext.refl [] w7).drewN _).below (by have := b7.size; have := X6.size; omega) (by simp))⟩
    · cases hf
  · exact absurd rfl hne
end Go.Proofs.YtipbfmalacnmkaaGreat
