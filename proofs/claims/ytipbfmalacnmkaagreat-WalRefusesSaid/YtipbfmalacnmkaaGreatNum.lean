/- What the wal reader's num, vote and text return, where the record goes on with a number, a vote, a text. -/
import Derived.Test.YtipbfmalacnmkaaGreatRead3
namespace Go.Proofs.YtipbfmalacnmkaaGreat
open Go.RowKit
/-- The wal's reader in block g: bytes v, nothing wrong yet. -/
def WRdr (w : World) (g : Nat) (v : Value) : Prop := w.heap[g]? = some (.cells #[v, .bool true] 115 (0, 0))
theorem WRdr.c0 {w : World} {g : Nat} {v : Value} (h : WRdr w g v) : w.cell? ⟨g, 0, none⟩ = some v := by rw [cell_of_row _ _ _ _ _ _ h]; rfl
theorem WRdr.c1 {w : World} {g : Nat} {v : Value} (h : WRdr w g v) : w.cell? ⟨g, 1, none⟩ = some (.bool true) := by rw [cell_of_row _ _ _ _ _ _ h]; rfl
theorem WRdr.f {w : World} {g o : Nat} {v : Value} (h : WRdr w g v) : w.frozen? ⟨g, o, none⟩ = false := frozen_of_row _ _ _ _ _ h
theorem WRdr.lt {w : World} {g : Nat} {v : Value} (h : WRdr w g v) : g < w.heap.size := (Array.getElem?_eq_some_iff.1 h).1
theorem WRdr.below {w w' : World} {g : Nat} {v : Value} (h : WRdr w g v) (hb : Below w.heap.size w w') : WRdr w' g v := (hb.block g h.lt).trans h
/-- Behind a read: the value, the reader behind it. -/
def Got (B : Nat) (g : Nat) (x : Value) (rest : List UInt8) (w : World) (e : Ending) (w' : World) : Prop :=
  e = .returned x ∧ ∃ v', WRdr w' g v' ∧ RdB B w' v' rest ∧ Ext [g] w w'


set_option maxRecDepth 10000 in
set_option maxHeartbeats 1000000 in
theorem num_calls (g B : Nat) (v : Value) (l rest : List UInt8) (n most : Nat) (hn : n ≤ 1152921504606846976) (hm : n ≤ most) (w : World) (hr : WRdr w g v) (hv : RdB B w v l) (hB : B ≤ w.heap.size) (hk : l = uint n ++ rest) (hl : l.length ≤ 1099511627776) :
    Calls Tryz.prog 81 #[.pointer (some ⟨g, 0, none⟩), .int .u64 (most : Nat)] w (Got B g (.int .u64 (n : Nat)) rest w) := by
  obtain ⟨a, cap, rfl, hcap, hcap2⟩ := hv.shape
  have q0 := hr.c0
  have hkl : (uint n).length ≤ l.length := by
    have := congrArg List.length hk
    simp only [List.length_append] at this
    skip
    omega
  have hd : l.drop ((uint n).length) = rest := by rw [hk, List.drop_left' rfl]
  obtain ⟨a2, c2, hs2, hr2⟩ := RdB.slice_l rfl hv ((uint n).length) hkl
  rw [hd] at hr2
  have HK := Lib.hid hk
  clear hk hd
  obtain ⟨K, hK⟩ : ∃ K : Nat, (uint n).length = K := ⟨_, rfl⟩
  have hread := ReadUint_calls _ l rest n hn w (hv.mono hB) HK.out hl
  rw [hK] at hread hs2 hr2
  have hs2' := fun W => hs2 (K : Int) rfl W
  have HD := Lib.hid hread
  clear hs2 hread hK hkl
  skip
  go_enter Tryz.func81, Tryz.ntmps81
  go_wp2_with fail
  refine HD.out.mono ?_
  rintro e w1 ⟨rfl, hb⟩
  have hr1 : WRdr w1 g (.slice a l.length cap) := hr.below hb
  have p0 := hr1.c0
  have p1 := hr1.c1
  have f0 : w1.frozen? ⟨g, 0, none⟩ = false := hr1.f
  have f1 : w1.frozen? ⟨g, 1, none⟩ = false := hr1.f
  go_wp2_with fail
  go_ret
  have e1 : (w1.setCell ⟨g, 1, none⟩ (.bool true)).heap[g]? = some (.cells #[.slice a l.length cap, .bool true] 115 (0, 0)) := by
    rw [heap_setCell_same _ _ _ _ _ _ hr1]; rfl
  refine ⟨rfl, .slice a2 (l.length - K) c2, ?_, ?_, ?_⟩
  · unfold WRdr
    rw [heap_setCell_same _ _ _ _ _ _ e1]; rfl
  · have hx : Ext [g] w1 ((w1.setCell ⟨g, 1, none⟩ (.bool true)).setCell ⟨g, 0, none⟩ (.slice a2 (l.length - K) c2)) := Ext.setCell (p := ⟨g, 0, none⟩) (Ext.setCell (p := ⟨g, 1, none⟩) (Ext.refl [g] w1) (.inl (List.mem_singleton.2 rfl)) _) (.inl (List.mem_singleton.2 rfl)) _
    refine Rd.extM (hr2.belowS hb) hx (fun q hq cur fz => ?_)
    simp at hq
    subst hq
    unfold WRdr at hr1
    rw [hr1]
    intro e
    cases e
  · exact Ext.setCell (p := ⟨g, 0, none⟩) (Ext.setCell (p := ⟨g, 1, none⟩) (Ext.of_below hb) (.inl (List.mem_singleton.2 rfl)) _) (.inl (List.mem_singleton.2 rfl)) _


set_option maxRecDepth 10000 in
set_option maxHeartbeats 1000000 in
theorem vote_calls (g B : Nat) (v : Value) (l rest : List UInt8) (x : Int) (h1 : -1 ≤ x) (h2 : x ≤ 6) (w : World) (hr : WRdr w g v) (hv : RdB B w v l) (hB : B ≤ w.heap.size) (hk : l = uint (zig x) ++ rest) (hl : l.length ≤ 1099511627776) :
    Calls Tryz.prog 82 #[.pointer (some ⟨g, 0, none⟩)] w (Got B g (.int .i64 x) rest w) := by
  obtain ⟨a, cap, rfl, hcap, hcap2⟩ := hv.shape
  have q0 := hr.c0
  have hkl : (uint (zig x)).length ≤ l.length := by
    have := congrArg List.length hk
    simp only [List.length_append] at this
    skip
    omega
  have hd : l.drop ((uint (zig x)).length) = rest := by rw [hk, List.drop_left' rfl]
  obtain ⟨a2, c2, hs2, hr2⟩ := RdB.slice_l rfl hv ((uint (zig x)).length) hkl
  rw [hd] at hr2
  have HK := Lib.hid hk
  clear hk hd
  obtain ⟨K, hK⟩ : ∃ K : Nat, (uint (zig x)).length = K := ⟨_, rfl⟩
  have hread := ReadInt_calls _ l rest x h1 h2 w (hv.mono hB) HK.out hl
  rw [hK] at hread hs2 hr2
  have hs2' := fun W => hs2 (K : Int) rfl W
  have HD := Lib.hid hread
  clear hs2 hread hK hkl
  have h7 : decide (x < 7) = true := by rw [decide_eq_true_iff]; omega
  go_enter Tryz.func82, Tryz.ntmps82
  go_wp2_with fail
  refine HD.out.mono ?_
  rintro e w1 ⟨rfl, hb⟩
  have hr1 : WRdr w1 g (.slice a l.length cap) := hr.below hb
  have p0 := hr1.c0
  have p1 := hr1.c1
  have f0 : w1.frozen? ⟨g, 0, none⟩ = false := hr1.f
  have f1 : w1.frozen? ⟨g, 1, none⟩ = false := hr1.f
  go_wp2_with fail
  go_ret
  have e1 : (w1.setCell ⟨g, 1, none⟩ (.bool true)).heap[g]? = some (.cells #[.slice a l.length cap, .bool true] 115 (0, 0)) := by
    rw [heap_setCell_same _ _ _ _ _ _ hr1]; rfl
  refine ⟨rfl, .slice a2 (l.length - K) c2, ?_, ?_, ?_⟩
  · unfold WRdr
    rw [heap_setCell_same _ _ _ _ _ _ e1]; rfl
  · have hx : Ext [g] w1 ((w1.setCell ⟨g, 1, none⟩ (.bool true)).setCell ⟨g, 0, none⟩ (.slice a2 (l.length - K) c2)) := Ext.setCell (p := ⟨g, 0, none⟩) (Ext.setCell (p := ⟨g, 1, none⟩) (Ext.refl [g] w1) (.inl (List.mem_singleton.2 rfl)) _) (.inl (List.mem_singleton.2 rfl)) _
    refine Rd.extM (hr2.belowS hb) hx (fun q hq cur fz => ?_)
    simp at hq
    subst hq
    unfold WRdr at hr1
    rw [hr1]
    intro e
    cases e
  · exact Ext.setCell (p := ⟨g, 0, none⟩) (Ext.setCell (p := ⟨g, 1, none⟩) (Ext.of_below hb) (.inl (List.mem_singleton.2 rfl)) _) (.inl (List.mem_singleton.2 rfl)) _


set_option maxRecDepth 10000 in
set_option maxHeartbeats 1000000 in
theorem text_calls (g B : Nat) (v : Value) (l rest : List UInt8) (s : ByteArray) (hs : s.size ≤ 1099511627776) (w : World) (hr : WRdr w g v) (hv : RdB B w v l) (hB : B ≤ w.heap.size) (hk : l = uint s.size ++ (s.data.toList ++ rest)) (hl : l.length ≤ 1099511627776) :
    Calls Tryz.prog 83 #[.pointer (some ⟨g, 0, none⟩)] w (Got B g (.string s) rest w) := by
  obtain ⟨a, cap, rfl, hcap, hcap2⟩ := hv.shape
  have q0 := hr.c0
  have hkl : (uint s.size).length + s.size ≤ l.length := by
    have := congrArg List.length hk
    simp only [List.length_append, Array.length_toList] at this
    have e : s.data.size = s.size := rfl
    omega
  have hd : l.drop ((uint s.size).length + s.size) = rest := by rw [hk, ← List.drop_drop, List.drop_left' rfl, List.drop_left' (by rw [Array.length_toList]; rfl)]
  obtain ⟨a2, c2, hs2, hr2⟩ := RdB.slice_l rfl hv ((uint s.size).length + s.size) hkl
  rw [hd] at hr2
  have HK := Lib.hid hk
  clear hk hd
  obtain ⟨K, hK⟩ : ∃ K : Nat, (uint s.size).length + s.size = K := ⟨_, rfl⟩
  have hread := ReadText_calls _ l rest s hs w (hv.mono hB) HK.out hl
  rw [hK] at hread hs2 hr2
  have hs2' := fun W => hs2 (K : Int) rfl W
  have HD := Lib.hid hread
  clear hs2 hread hK hkl
  skip
  go_enter Tryz.func83, Tryz.ntmps83
  go_wp2_with fail
  refine HD.out.mono ?_
  rintro e w1 ⟨rfl, hb⟩
  have hr1 : WRdr w1 g (.slice a l.length cap) := hr.below hb
  have p0 := hr1.c0
  have p1 := hr1.c1
  have f0 : w1.frozen? ⟨g, 0, none⟩ = false := hr1.f
  have f1 : w1.frozen? ⟨g, 1, none⟩ = false := hr1.f
  go_wp2_with fail
  go_ret
  have e1 : (w1.setCell ⟨g, 1, none⟩ (.bool true)).heap[g]? = some (.cells #[.slice a l.length cap, .bool true] 115 (0, 0)) := by
    rw [heap_setCell_same _ _ _ _ _ _ hr1]; rfl
  refine ⟨rfl, .slice a2 (l.length - K) c2, ?_, ?_, ?_⟩
  · unfold WRdr
    rw [heap_setCell_same _ _ _ _ _ _ e1]; rfl
  · have hx : Ext [g] w1 ((w1.setCell ⟨g, 1, none⟩ (.bool true)).setCell ⟨g, 0, none⟩ (.slice a2 (l.length - K) c2)) := Ext.setCell (p := ⟨g, 0, none⟩) (Ext.setCell (p := ⟨g, 1, none⟩) (Ext.refl [g] w1) (.inl (List.mem_singleton.2 rfl)) _) (.inl (List.mem_singleton.2 rfl)) _
    refine Rd.extM (hr2.belowS hb) hx (fun q hq cur fz => ?_)
    simp at hq
    subst hq
    unfold WRdr at hr1
    rw [hr1]
    intro e
    cases e
  · exact Ext.setCell (p := ⟨g, 0, none⟩) (Ext.setCell (p := ⟨g, 1, none⟩) (Ext.of_below hb) (.inl (List.mem_singleton.2 rfl)) _) (.inl (List.mem_singleton.2 rfl)) _

end Go.Proofs.YtipbfmalacnmkaaGreat
