/- The disk's Crash: what waits is lost, but a beginning of it. -/
import Derived.Test.YtipbfmalacnmkaaGreatNames
import Derived.Test.YtipbfmalacnmkaaGreatPlain
namespace Go.Proofs.YtipbfmalacnmkaaGreat
open Go.RowKit Go.Maps Go.Sort Go.Shelf

/-- Whole numbers that can be read. -/
def RdI (B : Nat) (w : World) (v : Value) (l : List Int) : Prop :=
  ∃ (a : Option Addr) (cap : Nat), v = .slice a l.length cap ∧ l.length ≤ maxLen ∧ (0 < l.length → ∃ b off, a = some ⟨b, off, none⟩ ∧ b < B ∧ b < w.heap.size ∧ ∀ i z, l[i]? = some z → w.cell? ⟨b, off + i, none⟩ = some (.int .i64 z))
theorem RdI.nil (B : Nat) (w : World) : RdI B w (.slice none 0 0) [] := ⟨none, 0, rfl, Nat.zero_le _, fun h => by simp at h⟩
theorem RdI.ext {M : List Nat} {B : Nat} {w w' : World} {v : Value} {l : List Int} (h : RdI B w v l) (hx : Ext M w w') (hM : ∀ q, q ∈ M → B ≤ q) : RdI B w' v l := by
  obtain ⟨a, cap, h1, h2, h3⟩ := h
  refine ⟨a, cap, h1, h2, fun hn => ?_⟩
  obtain ⟨b, off, h4, h5, h6, h7⟩ := h3 hn
  exact ⟨b, off, h4, h5, Nat.lt_of_lt_of_le h6 hx.size, fun i z hz => (hx.cellAt h6 (fun hq => by have := hM b hq; omega)).trans (h7 i z hz)⟩
def CrashPost (w : World) (d m : Nat) (k : Dk) (e : Ending) (w' : World) : Prop := e = .returned (.int .i64 0) ∧ ∃ k', Crashed k k' ∧ DiskAt w' d m k' ∧ Ext [d, m] w w'
/-- After j names: those behind are as they were. -/
def Mid (N : List Nm) (k : Dk) (d m : Nat) (w0 : World) (j : Nat) (w : World) : Prop :=
  ∃ kj, DiskAt w d m kj ∧ Ext [m] w0 w ∧ kj.off = k.off ∧ kj.fuse = k.fuse ∧ (∀ x, x ∈ N.take j → Lost (k.fs x) (kj.fs x)) ∧ (∀ x, x ∉ N.take j → kj.fs x = k.fs x)
theorem take_snoc {α : Type} {l : List α} {j : Nat} (h : j < l.length) : l.take (j + 1) = l.take j ++ [l[j]] := List.take_succ_eq_append_getElem h
theorem notin_take {α : Type} {l : List α} (hn : l.Nodup) {j : Nat} (h : j < l.length) : l[j] ∉ l.take j := by
  intro hm
  obtain ⟨i, hi, he⟩ := List.getElem_of_mem hm
  rw [List.length_take] at hi
  rw [List.getElem_take] at he
  have := (List.getElem_inj hn).1 he
  omega
theorem Mid.next {N : List Nm} {k kj kj' : Dk} {d m j : Nat} {w0 w w' : World} {x : Nm} {f : Fl} (hj : j < N.length) (hx : N[j] = x)
    (hext : Ext [m] w0 w) (ho : kj.off = k.off) (hfu : kj.fuse = k.fuse) (h1 : ∀ x, x ∈ N.take j → Lost (k.fs x) (kj.fs x)) (h2 : ∀ x, x ∉ N.take j → kj.fs x = k.fs x)
    (hf : k.fs x = some f) (hd' : DiskAt w' d m kj') (hx' : Ext [m] w w') (ho' : kj'.off = kj.off) (hfu' : kj'.fuse = kj.fuse) (q : Nat) (hq1 : f.last ≤ q) (hq2 : q ≤ f.b.length) (hfs : kj'.fs = upd kj.fs x (some ⟨f.b.take q, q⟩)) : Mid N k d m w0 (j + 1) w' := by
  refine ⟨kj', hd', hext.trans hx', ho'.trans ho, hfu'.trans hfu, ?_, ?_⟩
  · intro y hy
    by_cases hyx : y = x
    · subst hyx
      rw [hf, hfs, upd_same]
      exact ⟨q, hq1, hq2, rfl⟩
    · rw [hfs, upd_ne _ _ _ _ hyx]
      refine h1 y ?_
      rw [take_snoc hj, hx] at hy
      simpa [hyx] using hy
  · intro y hy
    rw [take_snoc hj, hx, List.mem_append, List.mem_singleton, not_or] at hy
    rw [hfs, upd_ne _ _ _ _ hy.2]
    exact h2 y hy.1
theorem DiskAt.reset {w : World} {d m : Nat} {k : Dk} (h : DiskAt w d m k) : DiskAt ((w.setCell ⟨d, 1, none⟩ (.bool false)).setCell ⟨d, 2, none⟩ (.int .i64 (-1))) d m { k with off := false, fuse := -1 } := by
  obtain ⟨g, h1, _⟩ := id h
  exact h.setRow (((Ext.refl [d] w).setCell (p := ⟨d, 1, none⟩) (.inl (by simp)) _).setCell (p := ⟨d, 2, none⟩) (.inl (by simp)) _) _ rfl (heap_set (o := 2) (.int .i64 (-1)) (heap_set (o := 1) (.bool false) h1))
def SomeCut (last len : Nat) (s9 : Value) : Prop := ∃ q : Nat, s9 = .int .i64 q ∧ last + q ≤ len

theorem someCut_of (last len : Nat) (z : Int) (h : last ≤ len) : SomeCut last len (.int .i64 (max 0 (min z ((len : Int) - (last : Int))))) := by
  refine ⟨(max 0 (min z ((len : Int) - (last : Int)))).toNat, ?_, by omega⟩
  rw [Int.toNat_of_nonneg (by omega)]
theorem box80 {w : World} {z : Nat} {a b : Value} (r : w.heap[z]? = some (.cells #[a, b] 80 (0, 0))) : w.cell? ⟨z, 0, none⟩ = some a ∧ w.cell? ⟨z, 1, none⟩ = some b ∧ w.frozen? ⟨z, 0, none⟩ = false ∧ w.frozen? ⟨z, 1, none⟩ = false :=
  ⟨by rw [cell_of_row _ _ _ _ _ _ r]; rfl, by rw [cell_of_row _ _ _ _ _ _ r]; rfl, frozen_of_row _ _ _ _ _ r, frozen_of_row _ _ _ _ _ r⟩

set_option maxRecDepth 10000 in
set_option maxHeartbeats 4000000 in
theorem Crash_calls {B : Nat} {w : World} {d m : Nat} {k : Dk} (hd : DiskAt w d m k) (kv : Value) (ks : List Int) (hk : RdI B w kv ks) (hBm : B ≤ m) (hl : ∀ x f, k.fs x = some f → f.last ≤ f.b.length ∧ f.b.length ≤ 1099511627776) :
    Calls Tryz.prog 23 #[.pointer (some ⟨d, 0, none⟩), kv] w fun e w' => CrashPost w d m k e w' := by
  obtain ⟨ak, ck, rfl, hck2, _⟩ := id hk
  have hkl : ks.length ≤ 9223372036854775807 := by unfold maxLen at hck2; omega
  have hmade := made_calls d m w hd.c0
  have p0 := hd.c0
  have ld := hd.lt
  have lm := hd.ltm
  have hdm := hd.ne
  obtain ⟨g, hrow, hmap, hfs⟩ := id hd
  have hnm : namesOf g = namesOf k.fs := namesOf_congr (fun x => (hfs x).some_iff)
  have hs := Sorted_calls hmap
  rw [hnm] at hs
  have HSO := Lib.hid hs
  have HMA := Lib.hid hmade
  have hNn := namesOf_nodup k.fs
  have hNl := namesOf_le k.fs
  have hNm : ∀ x, x ∈ namesOf k.fs ↔ (k.fs x).isSome = true := fun x => mem_namesOf
  generalize namesOf k.fs = N at *
  have HNM := Lib.hid hNm
  have HL := Lib.hid hl
  clear hs hmade hnm hNm hl
  go_enter Tryz.func23, Tryz.ntmps23
  go_wp2_with (first
    | (go_at_call 45; refine HMA.out.mono ?_; rintro e w' ⟨rfl, rfl⟩)
    | (go_at_call 47; refine (Keys_calls _ _).mono ?_; rintro e w' ⟨rfl, rfl⟩)
    | (go_at_call 46; refine HSO.out.mono ?_; rintro e w4 ⟨v, rfl, hown, hb4⟩; obtain ⟨al, cl, rfl, hcl, hcl2⟩ := (Rd.of_own hown).shape; have hrl := Rd.of_own hown))
  have X4 : Ext [] w w4 := Ext.of_below hb4
  go_loopw [20, 5] (fun s20 s5 wr => ∃ j i : Nat, j ≤ N.length ∧ i ≤ j ∧ s20 = .int .i64 j ∧ s5 = .int .i64 i ∧ Hid (Mid N k d m w4 j wr)) (fun s20 _ _ => (N.length - intOf s20).toNat)
  case atStart =>
    exact ⟨0, 0, by omega, by omega, rfl, rfl, Lib.hid ⟨k, hd.nil X4, Ext.refl _ _, rfl, rfl, by simp, fun _ _ => rfl⟩⟩
  case round =>
    obtain ⟨j, i, hj, hi, rfl, rfl, hmid⟩ := hrel
    obtain ⟨wo, rfl⟩ : ∃ wo : World, wo = wr := ⟨_, rfl⟩
    obtain ⟨kj, dj, xj, oj, fj, lost, same⟩ := hmid.out
    have c0 := dj.c0
    have LOST := Lib.hid lost
    have SAME := Lib.hid same
    have OJ := Lib.hid oj
    have FJ := Lib.hid fj
    have DJ := Lib.hid dj
    clear lost same oj fj hmid
    by_cases hj2 : j < N.length
    · have hrl2 : Rd w4.heap.size wo 9 1 (.slice al N.length cl) N.length (N.map Nm.str) := Rd.extM hrl xj (fun q hq cur fz hc => by
        rw [List.mem_singleton] at hq
        subst hq
        obtain ⟨es, clock, hblk⟩ := (hmap.of_heap (w' := w4) (X4.block _ lm (by simp))).block
        rw [hblk] at hc
        cases hc)
      obtain ⟨b9, off9, rfl, _, _, hcell⟩ := Rd.cell hrl2 (by omega)
      have hc9 := hcell j (by omega)
      rw [List.getElem?_map, List.getElem?_eq_getElem hj2, Option.map_some] at hc9
      clear hcell
      generalize hx : N[j] = x at hc9
      have HX := Lib.hid hx
      have hmem : x ∈ N := hx ▸ List.getElem_mem hj2
      have hnot : x ∉ N.take j := hx ▸ notin_take hNn hj2
      clear hx
      have hkx := SAME.out x hnot
      obtain ⟨f, hf⟩ := Option.isSome_iff_exists.1 ((HNM.out x).1 hmem)
      rw [hf] at hkx
      obtain ⟨hf1, hf2⟩ := HL.out x f hf
      obtain ⟨gj, rowj, mapj, fsj⟩ := id dj
      obtain ⟨af, cf, hv, hrd⟩ := (fsj x).get
      rw [hkx] at hv hrd
      simp only [Option.getD_some] at hv hrd
      obtain ⟨nm, hnm⟩ : ∃ nm, x.str = .string nm := ⟨_, rfl⟩
      rw [hnm] at hc9
      have HF := Lib.hid hf
      have HKX := Lib.hid hkx
      have hlk : (Instr.lookup 46 (.map (some m)) (.string nm) false).run Tryz.prog wo = .ok (.agg #[.slice af f.b.length cf, .int .i64 f.last]) wo := by
        have := mapj.look x
        rw [hv, hnm] at this
        exact this
      have HNMX := Lib.hid hnm
      have X8 : Ext [] wo (wo.alloc (.cells #[.slice af f.b.length cf, .int .i64 f.last] 80)) := (Ext.refl [] wo).alloc _
      have row8 : (wo.alloc (.cells #[.slice af f.b.length cf, .int .i64 f.last] 80)).heap[wo.heap.size]? = some (.cells #[.slice af f.b.length cf, .int .i64 f.last] 80 (0, 0)) := heap_alloc_new wo _
      clear hf hkx hv hnm
      have fin : ∀ w' kj' (q : Nat), DiskAt w' d m kj' → Ext [m] wo w' → kj'.off = kj.off → kj'.fuse = kj.fuse → f.last ≤ q → q ≤ f.b.length → kj'.fs = upd kj.fs x (some ⟨f.b.take q, q⟩) → Mid N k d m w4 (j + 1) w' :=
        fun w' kj' q a1 a2 a3 a4 a5 a6 a7 => Mid.next hj2 HX.out xj OJ.out FJ.out LOST.out SAME.out HF.out a1 a2 a3 a4 q a5 a6 a7
      have FIN := Lib.hid fin
      clear fin
      by_cases hlast : f.last = f.b.length
      · have hb1 : ((f.last : Int) == (f.b.length : Int)) = true := by simp [hlast]
        have hb2 : (f.last == f.b.length) = true := by simp [hlast]
        have HLA := Lib.hid hlast
        clear hlast
        go_wp2_with fail
        go_roundw
        case rel =>
          refine ⟨j + 1, i, by omega, by omega, by go_num, rfl, Lib.hid (FIN.out _ kj f.b.length (DJ.out.nil X8) ((Ext.refl [m] wo).cut (M1 := []) X8 (by simp)) rfl rfl (by omega) (by omega) ?_)⟩
          funext y
          by_cases hy : y = x
          · subst hy
            rw [upd_same, List.take_length, HKX.out]
            have := HLA.out
            cases f
            simp only at this
            rw [this]
          · rw [upd_ne _ _ _ _ hy]
        case measure => simp [intOf]; omega
      · have hb1 : ((f.last : Int) == (f.b.length : Int)) = false := by simp; omega
        have hb2 : (f.last == f.b.length) = false := by simp; omega
        have hwr : IntKind.i64.wrap ((f.b.length : Int) - (f.last : Int)) = (f.b.length : Int) - (f.last : Int) := IntWalk.i64_in _ (by omega)
        have HWR := Lib.hid hwr
        clear hwr
        go_upto_if 39 with fail
        generalize wo.alloc (.cells #[.slice af f.b.length cf, .int .i64 f.last] 80) = w8 at *
        obtain ⟨y0, y1, y2, y3⟩ := box80 row8
        go_cut [9] (fun s9 wc => SomeCut f.last f.b.length s9 ∧ Ext [] w8 wc)
        case first =>
          by_cases hik : i < ks.length
          · have X48 : Ext [m] w w8 := ((Ext.refl [m] w).cut (M1 := []) X4 (by simp)).trans (xj.cut (M1 := []) X8 (by simp))
            obtain ⟨_, _, hkv, _, hk8⟩ := hk.ext X48 (fun q hq => by rw [List.mem_singleton] at hq; omega)
            cases hkv
            obtain ⟨bk, offk, rfl, _, _, hcell⟩ := hk8 (by omega)
            have hck9 := hcell i _ (List.getElem?_eq_getElem hik)
            clear hcell hk8
            generalize ks[i] = z at hck9
            have hi0 : (0 : Int) ≤ (i : Int) := by omega
            have hi1 : (i : Int) < (ks.length : Int) := by omega
            have hwr := HWR.out
            go_upto_region 11 with fail
            go_quiet (fail)
            go_wp2_with fail
            go_meet
            exact ⟨someCut_of f.last f.b.length z hf1, (Ext.refl [] w8).drewN _⟩
          · have hd0 : decide (i < ks.length) = false := by simpa using hik
            have hd1 : decide ((i : Int) < (ks.length : Int)) = false := by simp; omega
            go_wp2_with fail
            go_meet
            exact ⟨⟨0, rfl, by omega⟩, Ext.refl [] w8⟩
        case rest =>
          obtain ⟨w10, rfl⟩ : ∃ w10 : World, w10 = wc := ⟨_, rfl⟩
          obtain ⟨⟨q, rfl, hq⟩, x810⟩ := hcut
          have row10 := x810.heap row8
          have x10 : Ext [] wo w10 := X8.trans x810
          clear y0 y1 y2 y3 c0 hlk
          obtain ⟨y0, y1, y2, y3⟩ := box80 row10
          have hrd10 : RdB wo.heap.size w10 (.slice af f.b.length cf) f.b := RdB.ext hrd x10
          obtain ⟨a2, c2, hsl, hrd2⟩ := RdB.slice_h rfl hrd10 (f.last + q) hq
          have hsl2 := fun W => hsl ((f.last : Int) + (q : Int)) (by omega) W
          clear hsl
          have hr11 := heap_set (o := 0) (.slice a2 (f.last + q) c2) (heap_set (o := 1) (.int .i64 ((f.last : Int) + (q : Int))) row10)
          have X11 : Ext [] wo ((w10.setCell ⟨wo.heap.size, 1, none⟩ (.int .i64 ((f.last : Int) + (q : Int)))).setCell ⟨wo.heap.size, 0, none⟩ (.slice a2 (f.last + q) c2)) :=
            (x10.setCell (p := ⟨wo.heap.size, 1, none⟩) (.inr (Nat.le_refl _)) _).setCell (p := ⟨wo.heap.size, 0, none⟩) (.inr (Nat.le_refl _)) _
          have hrd11 : RdB wo.heap.size ((w10.setCell ⟨wo.heap.size, 1, none⟩ (.int .i64 ((f.last : Int) + (q : Int)))).setCell ⟨wo.heap.size, 0, none⟩ (.slice a2 (f.last + q) c2)) (.slice a2 (f.last + q) c2) (f.b.take (f.last + q)) :=
            Rd.setOther (Rd.setOther hrd2 row10 (by decide)) (heap_set (o := 1) (.int .i64 ((f.last : Int) + (q : Int))) row10) (by decide)
          go_upto_region 15 with fail
          generalize (w10.setCell ⟨wo.heap.size, 1, none⟩ (.int .i64 ((f.last : Int) + (q : Int)))).setCell ⟨wo.heap.size, 0, none⟩ (.slice a2 (f.last + q) c2) = wd at hr11 X11 hrd11 ⊢
          have mm : MapAt wd.drew m gj := mapj.of_heap (X11.block m mapj.lt (by simp))
          obtain ⟨w6, hst, hm6, hx6⟩ := mm.store x (.agg #[.slice a2 (f.last + q) c2, .int .i64 ((f.last : Int) + (q : Int))])
          rw [HNMX.out] at hst
          have q0 : wd.cell? ⟨d, 0, none⟩ = some (.map (some m)) := (X11.cellAt DJ.out.lt (by simp)).trans DJ.out.c0
          clear y0 y1 y2 y3
          obtain ⟨y0, y1, y2, y3⟩ := box80 (show wd.heap[wo.heap.size]? = some (.cells #[.slice a2 (f.last + q) c2, .int .i64 ((f.last : Int) + (q : Int))] 80 (0, 0)) from hr11)
          have elen : (f.b.take (f.last + q)).length = f.last + q := by rw [List.length_take]; omega
          have hd6 : DiskAt w6 d m (kj.put x ⟨f.b.take (f.last + q), f.last + q⟩) :=
            DiskAt.stored DJ.out mapj fsj (X11.drewN 1) hx6 hm6 ⟨a2, c2, by simp only [elen]; congr 1, by rw [elen]; exact RdB.mono hrd11 X11.size⟩
          have hx66 : Ext [m] wo w6 := ((Ext.refl [m] wo).cut (M1 := []) (X11.drewN 1) (by simp)).trans hx6
          have HD6 := Lib.hid hd6
          have HX6 := Lib.hid hx66
          clear hd6 hx66 hr11 hrd11 hm6 elen hsl2 hrd2 hx6
          go_region
          all_goals
            go_wp2_with fail
            go_roundw
            case rel =>
              exact ⟨j + 1, i + 1, by omega, by omega, by go_num, by go_num, Lib.hid (FIN.out _ _ (f.last + q) HD6.out HX6.out rfl rfl (by omega) (by omega) rfl)⟩
            case measure => simp [intOf]; omega
    · obtain rfl : j = N.length := by omega
      have f1 := DJ.out.f 1
      have f2 := DJ.out.f 2
      have c1 := DJ.out.c1
      have c2 := DJ.out.c2
      have fin : CrashPost w d m k (.returned (.int .i64 0)) ((wo.setCell ⟨d, 1, none⟩ (.bool false)).setCell ⟨d, 2, none⟩ (.int .i64 (-1))) := by
        refine ⟨rfl, _, ⟨rfl, rfl, fun x => ?_⟩, DJ.out.reset, ?_⟩
        · by_cases hx : x ∈ N
          · exact LOST.out x (by rw [List.take_length]; exact hx)
          · have := SAME.out x (by rw [List.take_length]; exact hx)
            have hn : k.fs x = none := by
              cases hkx : k.fs x with
              | none => rfl
              | some f => exact absurd ((HNM.out x).2 (by rw [hkx]; rfl)) hx
            change Lost (k.fs x) (kj.fs x)
            rw [this, hn]
            rfl
        · have X5 : Ext [d, m] w wo := ((Ext.refl [d, m] w).cut (M1 := []) X4 (by simp)).cut xj (by simp)
          exact (X5.setCell (p := ⟨d, 1, none⟩) (.inl (by simp)) _).setCell (p := ⟨d, 2, none⟩) (.inl (by simp)) _
      have FIN := Lib.hid fin
      clear fin
      go_wp2_with fail
      go_ret
      exact FIN.out
end Go.Proofs.YtipbfmalacnmkaaGreat
