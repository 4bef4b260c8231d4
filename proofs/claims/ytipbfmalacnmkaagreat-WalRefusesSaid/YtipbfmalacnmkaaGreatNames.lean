/- The disk's names, sorted: what Names returns. -/
import Derived.Test.YtipbfmalacnmkaaGreatIter
import Derived.Test.YtipbfmalacnmkaaGreatDisk5
namespace Go.Proofs.YtipbfmalacnmkaaGreat
open Go.RowKit Go.Maps Go.Sort Go.Shelf

def namesOf {α : Type} (g : Nm → Option α) : List Nm := [Nm.other, Nm.wal, Nm.new].filter (fun x => (g x).isSome)
theorem namesOf_congr {α β : Type} {g : Nm → Option α} {f : Nm → Option β} (h : ∀ x, (g x).isSome = (f x).isSome) : namesOf g = namesOf f := by
  unfold namesOf
  congr 1
  funext x
  exact h x
theorem mem_namesOf {α : Type} {g : Nm → Option α} {x : Nm} : x ∈ namesOf g ↔ (g x).isSome = true := by
  unfold namesOf
  rw [List.mem_filter]
  cases x <;> simp
theorem namesOf_le {α : Type} (g : Nm → Option α) : (namesOf g).length ≤ 3 := List.length_filter_le _ _
theorem namesOf_nodup {α : Type} (g : Nm → Option α) : (namesOf g).Nodup := List.Pairwise.sublist List.filter_sublist (show List.Pairwise (· ≠ ·) [Nm.other, Nm.wal, Nm.new] by decide)
theorem strKeys_mkD (g : Nm → Option Value) : strKeys (mkD g) = (namesOf g).map Nm.bytes := by
  unfold mkD namesOf
  cases h0 : g .other <;> cases h1 : g .wal <;> cases h2 : g .new <;> simp [h0, h1, h2, ent, strKeys, strOf, Nm.lit]
theorem sorted_names {g : Nm → Option Value} {ss : List (List UInt8)} (h : ss.Perm (strKeys (mkD g))) : (ss.mergeSort (fun x y => decide (x ≤ y))).map encStr = (namesOf g).map Nm.str ∧ ss.length = (namesOf g).length := by
  have hl := h.length_eq
  rw [strKeys_mkD, List.length_map] at hl
  refine ⟨?_, hl⟩
  have e : ss.mergeSort leB = (strKeys (mkD g)).mergeSort leB := mergeSort_of_perm h
  change (ss.mergeSort leB).map encStr = _
  rw [e, strKeys_mkD]
  have hp : ((namesOf g).map Nm.bytes).Pairwise (fun x y => leB x y = true) := by
    have h3 : ([Nm.other, Nm.wal, Nm.new].map Nm.bytes).Pairwise (fun x y => leB x y = true) := by decide
    refine List.Pairwise.sublist ?_ h3
    exact List.Sublist.map _ List.filter_sublist
  rw [List.mergeSort_of_pairwise hp, List.map_map]
  rfl

theorem ownsRow_lower {w : World} {base base' e sz : Nat} {v : Value} {n : Nat} {xs : List Value} (h : w.ownsRow base e sz v n xs) (hb : base' ≤ base) : w.ownsRow base' e sz v n xs := by
  obtain ⟨h1, h2⟩ := h
  refine ⟨h1, h2.imp id ?_⟩
  rintro ⟨g, cap, cur, h3, h4, r⟩
  exact ⟨g, cap, cur, h3, by omega, r⟩
theorem Keys_calls (m : Nat) (W : World) : Calls Tryz.prog 47 #[.map (some m)] W fun e w' => e = .returned (.func (.func 71) #[] #[.pointer (some ⟨W.heap.size, 0, none⟩)]) ∧ W.alloc (.cells #[.map (some m)] 46) = w' :=
  ((callsIn_wide (n := 5)).1 (Tryz.maps_Keys_47 (some m) W)).mono fun _ _ ⟨h1, h2⟩ => ⟨h1, h2.symm⟩
theorem Sorted_calls {w : World} {m : Nat} {g : Nm → Option Value} (h : MapAt w m g) :
    Calls Tryz.prog 46 #[.func (.func 71) #[] #[.pointer (some ⟨w.heap.size, 0, none⟩)]] (w.alloc (.cells #[.map (some m)] 46)) fun e w' => ∃ v, e = .returned v ∧ w'.ownsRow w.heap.size 9 1 v (namesOf g).length ((namesOf g).map Nm.str) ∧ Below w.heap.size w w' := by
  have hm := mkD_size g
  have hc := (callsIn_wide (n := 5)).1 (Tryz.slices_Sorted_keys_46_47 m 3 (mkD g) RV w h (by unfold maxLen; omega) (by omega))
  refine hc.mono ?_
  rintro e w' ⟨v, ss, he, hp, hown, _, hb⟩
  obtain ⟨h1, h2⟩ := sorted_names hp
  rw [h1, h2] at hown
  refine ⟨v, he, ownsRow_lower hown (by simp), ?_⟩
  exact ((Below.refl _ w).alloc (Nat.le_refl _) _).trans (hb.mono (by simp))

/-- Names that can be read. -/
def RdN (w : World) (v : Value) (l : List Nm) : Prop := Rd w.heap.size w 9 1 v l.length (l.map Nm.str)
def NamesPost (w : World) (k : Dk) (e : Ending) (w' : World) : Prop := ∃ v, e = .returned (.tuple #[v, .int .i64 0]) ∧ RdN w' v (namesOf k.fs) ∧ Ext [] w w'
set_option maxRecDepth 10000 in
set_option maxHeartbeats 800000 in
theorem Names_calls {w : World} {d m : Nat} {k : Dk} (hd : DiskAt w d m k) (hoff : k.off = false) : Calls Tryz.prog 35 #[.pointer (some ⟨d, 0, none⟩)] w fun e w' => NamesPost w k e w' := by
  have hg := goes_calls hd
  have hge : k.err = 0 := by simp [Dk.err, hoff]
  rw [hge] at hg
  have p0 := hd.c0
  obtain ⟨g, hrow, hmap, hfs⟩ := id hd
  have hnm : namesOf g = namesOf k.fs := namesOf_congr (fun x => (hfs x).some_iff)
  have hs := Sorted_calls hmap
  rw [hnm] at hs
  have HSO := Lib.hid hs
  have HG := Lib.hid hg
  clear hs hg hge hnm hoff
  go_enter Tryz.func35, Tryz.ntmps35
  go_wp2_with (first
    | (go_at_call 41; refine HG.out.mono ?_; rintro e w' ⟨rfl, rfl⟩)
    | (go_at_call 47; refine (Keys_calls _ _).mono ?_; rintro e w' ⟨rfl, rfl⟩)
    | (go_at_call 46; refine HSO.out.mono ?_; rintro e w' ⟨v, rfl, hown, hb⟩))
  go_ret2
  exact ⟨v, rfl, Rd.of_own hown, Ext.of_below hb⟩
end Go.Proofs.YtipbfmalacnmkaaGreat
