/- The plain law of the wal: what stands on the disk behind each change, and what is read of it when the power has failed. No program is walked here. -/
import Derived.Test.YtipbfmalacnmkaaGreatOpen2
namespace Go.Proofs.YtipbfmalacnmkaaGreat
open Go.RowKit Go.Shelf

def changed (was s : Sv) : Bool := decide (s.term ≠ was.term) || decide (s.vote ≠ was.vote) || !decide (s.log = was.log)
def rewrites (sz : Nat) (was s : Sv) : Bool := decide (4096 + 2 * (fullOf s).length < sz + (run (record was s)).length)
def Dk.kept (k : Dk) (sz : Nat) (was s : Sv) : Int × Dk := if rewrites sz was s then k.anew (fullOf s) else if changed was s then k.more (run (record was s)) else (0, k)
def keptSize (sz : Nat) (was s : Sv) : Nat := if rewrites sz was s then (fullOf s).length else if changed was s then sz + (run (record was s)).length else sz

theorem common_take (L : List Ent) : ∀ M : List Ent, L.take (common L M) = M.take (common L M) := by
  induction L with
  | nil => intro M; cases M <;> simp [common]
  | cons x L ih =>
    intro M
    cases M with
    | nil => simp [common]
    | cons y M =>
      unfold common
      split
      · rename_i h; subst h; simp [ih]
      · simp
theorem step_record {was s : Sv} (hw : was.log.length ≤ 4096) (hs : mayB s = true) : Step was (record was s) s := by
  have p := may_parts hs
  refine ⟨s.term, s.vote, common was.log s.log, s.log.drop (common was.log s.log), rfl, p.1, p.2.1, p.2.2.1, p.2.2.2.1, common_le' _ _, hw, ?_, ?_, ?_⟩
  · rw [List.length_drop]; have := p.2.2.2.2.1; omega
  · intro x hx
    exact List.all_eq_true.1 p.2.2.2.2.2 x (List.mem_of_mem_drop hx)
  · cases s with
    | mk T V L =>
      simp only [Sv.mk.injEq, true_and]
      rw [common_take, List.take_append_drop]

/-- A file that tells s, and is not too long for it. -/
def Good (F : List UInt8) (s : Sv) : Prop := ∃ recs, F = runsOf recs ∧ Chain Sv.zero recs s ∧ mayB s = true ∧ F.length ≤ 4096 + 2 * (fullOf s).length
theorem Good.may {F : List UInt8} {s : Sv} (h : Good F s) : mayB s = true := by obtain ⟨_, _, _, h, _⟩ := h; exact h
theorem Good.len {F : List UInt8} {s : Sv} (h : Good F s) : F.length ≤ 1146884696 := by
  obtain ⟨_, _, _, hs, h⟩ := h
  have : (fullOf s).length ≤ 573440300 := run_record_le Sv.zero s hs
  omega
theorem runsOf_snoc (recs : List (List UInt8)) (r : List UInt8) : runsOf (recs ++ [r]) = runsOf recs ++ run r := by simp [runsOf]
theorem Good.more {F : List UInt8} {was s : Sv} (h : Good F was) (hs : mayB s = true) (hl : F.length + (run (record was s)).length ≤ 4096 + 2 * (fullOf s).length) : Good (F ++ run (record was s)) s := by
  obtain ⟨recs, rfl, hc, hw, _⟩ := h
  refine ⟨recs ++ [record was s], by rw [runsOf_snoc], Chain.append.2 ⟨was, hc, s, step_record (may_parts hw).2.2.2.2.1 hs, rfl⟩, hs, ?_⟩
  rw [List.length_append]; exact hl
theorem good_full {s : Sv} (hs : mayB s = true) : Good (fullOf s) s :=
  ⟨[record Sv.zero s], by simp [runsOf, fullOf], ⟨s, step_record (by simp [Sv.zero]) hs, rfl⟩, hs, by omega⟩
theorem good_zero : Good [] Sv.zero := ⟨[], rfl, rfl, by decide, by simp⟩

/-- Bytes of which an opening tells one of S: a file that is whole, or one with a run that is torn. -/
def OkF (F : List UInt8) (S : Sv → Prop) : Prop := ∃ s, S s ∧ (Good F s ∨ ∃ recs q, Torn q ∧ q ≠ [] ∧ F = runsOf recs ++ q ∧ Chain Sv.zero recs s ∧ mayB s = true)
theorem OkF.mono {F : List UInt8} {S S' : Sv → Prop} (h : OkF F S) (hS : ∀ s, S s → S' s) : OkF F S' := by obtain ⟨s, h1, h2⟩ := h; exact ⟨s, hS s h1, h2⟩
theorem okF_more {F : List UInt8} {was s : Sv} (h : Good F was) (hs : mayB s = true) (hl : F.length + (run (record was s)).length ≤ 4096 + 2 * (fullOf s).length)
    (n : Nat) (h1 : F.length ≤ n) (h2 : n ≤ (F ++ run (record was s)).length) : OkF ((F ++ run (record was s)).take n) (fun x => x = was ∨ x = s) := by
  have hp := h
  obtain ⟨recs, hF, hc, hw, _⟩ := h
  obtain ⟨j, rfl⟩ : ∃ j, n = F.length + j := ⟨n - F.length, by omega⟩
  rw [List.length_append] at h2
  rw [List.take_append, List.take_of_length_le (by omega), Nat.add_sub_cancel_left]
  by_cases hj0 : j = 0
  · subst hj0
    exact ⟨was, .inl rfl, .inl (by simpa using hp)⟩
  by_cases hj : j = (run (record was s)).length
  · rw [hj, List.take_length]
    exact ⟨s, .inr rfl, .inl (hp.more hs hl)⟩
  · refine ⟨was, .inl rfl, .inr ⟨recs, (run (record was s)).take j, ⟨record was s, (run (record was s)).drop j, (List.take_append_drop j _).symm, ?_⟩, ?_, by rw [hF], hc, hw⟩⟩
    · intro e; have := congrArg List.length e; rw [List.length_drop, List.length_nil] at this; omega
    · intro e; have := congrArg List.length e; rw [List.length_take, List.length_nil] at this; omega

/-! ### the disk -/
def leftB : List UInt8 := [108, 101, 102, 116, 32, 97, 108, 111, 110, 101]
structure Base (k : Dk) : Prop where
  fuse : k.fuseOk
  oth : k.fs .other = some ⟨leftB, 10⟩
  wl : (k.get .wal).last ≤ (k.get .wal).b.length
  ws : (k.get .wal).b.length ≤ 8589934592
  nl : (k.get .new).last ≤ (k.get .new).b.length
  ns : (k.get .new).b.length ≤ 8589934592
/-- Whatever of the bytes that wait is lost: the file tells one of S. -/
def Holds (k : Dk) (S : Sv → Prop) : Prop := ∀ n, (k.get .wal).last ≤ n → n ≤ (k.get .wal).b.length → OkF ((k.get .wal).b.take n) S
/-- The disk goes, and the file tells s. -/
structure On (k : Dk) (s : Sv) : Prop where
  on : k.off = false
  base : Base k
  new : k.fs .new = none
  last : (k.get .wal).last = (k.get .wal).b.length
  good : Good (k.get .wal).b s

theorem Dk.get_of_eq {k k' : Dk} {x : Nm} (h : k'.fs x = k.fs x) : k'.get x = k.get x := by unfold Dk.get; rw [h]
theorem Dk.get_put (k : Dk) (x : Nm) (f : Fl) : (k.put x f).get x = f := by unfold Dk.get Dk.put; simp [upd]
theorem Dk.get_put_ne (k : Dk) (x y : Nm) (f : Fl) (h : y ≠ x) : (k.put x f).get y = k.get y := by unfold Dk.get Dk.put; simp [upd, h]
theorem Dk.fs_put_ne (k : Dk) (x y : Nm) (f : Fl) (h : y ≠ x) : (k.put x f).fs y = k.fs y := by unfold Dk.put; simp [upd, h]
theorem Dk.fs_put (k : Dk) (x : Nm) (f : Fl) : (k.put x f).fs x = some f := by unfold Dk.put; simp [upd]
theorem Dk.fs_del_ne (k : Dk) (x y : Nm) (h : y ≠ x) : (k.del x).fs y = k.fs y := by unfold Dk.del; simp [upd, h]
theorem Dk.fs_del (k : Dk) (x : Nm) : (k.del x).fs x = none := by unfold Dk.del; simp [upd]
theorem Dk.burnt_fs (k : Dk) : k.burnt.fs = k.fs := rfl
theorem Dk.burnt_off (k : Dk) : k.burnt.off = k.off := rfl
theorem Dk.blown_fs (k : Dk) : k.blown.fs = k.fs := rfl
theorem Dk.blown_off (k : Dk) : k.blown.off = true := rfl
theorem Dk.get_none {k : Dk} {x : Nm} (h : k.fs x = none) : k.get x = ⟨[], 0⟩ := by unfold Dk.get; rw [h]; rfl
theorem Dk.get_some {k : Dk} {x : Nm} {f : Fl} (h : k.fs x = some f) : k.get x = f := by unfold Dk.get; rw [h]; rfl

/-- What a part of a change leaves: the disk goes, or the power has failed. -/
structure Part (k k' : Dk) (e : Int) : Prop where
  two : e = 0 ∧ k'.off = false ∨ e = 250 ∧ k'.off = true
  fuse : k'.fuseOk
  oth : k'.fs .other = k.fs .other

theorem append_part {k : Dk} {x : Nm} {b : List UInt8} (hx : x ≠ .other) (hf : k.fuseOk) (ho : k.off = false) : Part k (k.append x b).2 (k.append x b).1 ∧ (k.append x b).2.fs = upd k.fs x (some ⟨(k.get x).b ++ b, (k.get x).last⟩) := by
  refine ⟨⟨?_, Dk.fuse_append hf, ?_⟩, ?_⟩
  · unfold Dk.append; rw [ho]; simp only [Bool.false_eq_true, if_false]; split <;> simp [Dk.put, Dk.blown_off, Dk.burnt_off, ho]
  · unfold Dk.append; rw [ho]; simp only [Bool.false_eq_true, if_false]
    split
    · exact Dk.fs_put_ne _ _ _ _ hx.symm
    · exact Dk.fs_put_ne _ _ _ _ hx.symm
  · unfold Dk.append; rw [ho]; simp only [Bool.false_eq_true, if_false]; split <;> rfl
theorem errAt_zero {k : Dk} {x : Nm} {f : Fl} (ho : k.off = false) (h : k.fs x = some f) : k.errAt x = 0 := by unfold Dk.errAt; rw [ho, h]; rfl
theorem errAt_none {k : Dk} {x : Nm} (ho : k.off = false) (h : k.fs x = none) : k.errAt x = 5 := by unfold Dk.errAt; rw [ho, h]; rfl
theorem sync_part {k : Dk} {x : Nm} {f : Fl} (hx : x ≠ .other) (hf : k.fuseOk) (ho : k.off = false) (h : k.fs x = some f) : Part k (k.sync x).2 (k.sync x).1 ∧
    ((k.sync x).1 = 0 → (k.sync x).2.fs = upd k.fs x (some ⟨f.b, f.b.length⟩)) ∧ ((k.sync x).1 = 250 → (k.sync x).2.fs = k.fs) := by
  have he := errAt_zero ho h
  have hg := Dk.get_some h
  by_cases h0 : k.fuse = 0
  · have e : k.sync x = (250, k.blown) := by unfold Dk.sync; rw [he, if_neg (by simp), if_pos h0]
    have hF := Dk.fuse_sync (x := x) hf
    rw [e] at hF ⊢
    exact ⟨⟨.inr ⟨rfl, rfl⟩, hF, rfl⟩, fun h => by simp at h, fun _ => rfl⟩
  · have e : k.sync x = (0, k.burnt.put x ⟨f.b, f.b.length⟩) := by unfold Dk.sync; rw [he, if_neg (by simp), if_neg h0, hg]
    have hF := Dk.fuse_sync (x := x) hf
    rw [e] at hF ⊢
    exact ⟨⟨.inl ⟨rfl, ho⟩, hF, Dk.fs_put_ne _ _ _ _ hx.symm⟩, fun _ => rfl, fun h => by simp at h⟩
theorem rename_part {k : Dk} {f : Fl} (hf : k.fuseOk) (ho : k.off = false) (h : k.fs .new = some f) : Part k (k.rename .new .wal).2 (k.rename .new .wal).1 ∧
    ((k.rename .new .wal).1 = 0 → (k.rename .new .wal).2.fs = upd (upd k.fs .new none) .wal (some f)) ∧ ((k.rename .new .wal).1 = 250 → (k.rename .new .wal).2.fs = k.fs) := by
  have he := errAt_zero ho h
  have hg := Dk.get_some h
  have hF := Dk.fuse_rename (x := .new) (y := .wal) hf
  by_cases h0 : k.fuse = 0
  · have e : k.rename .new .wal = (250, k.blown) := by unfold Dk.rename; rw [he, if_neg (by simp), if_pos h0]
    rw [e] at hF ⊢
    exact ⟨⟨.inr ⟨rfl, rfl⟩, hF, rfl⟩, fun h => by simp at h, fun _ => rfl⟩
  · have e : k.rename .new .wal = (0, (k.burnt.del .new).put .wal f) := by unfold Dk.rename; rw [he, if_neg (by simp), if_neg h0, hg]
    rw [e] at hF ⊢
    exact ⟨⟨.inl ⟨rfl, ho⟩, hF, by rw [Dk.fs_put_ne _ _ _ _ (by decide), Dk.fs_del_ne _ _ _ (by decide)]; rfl⟩, fun _ => rfl, fun h => by simp at h⟩
theorem clear_part {k : Dk} (hf : k.fuseOk) (ho : k.off = false) : Part k k.clear.2 k.clear.1 ∧ (k.clear.1 = 0 → k.clear.2.fs = upd k.fs .new none) ∧ (k.clear.1 = 250 → k.clear.2.fs = k.fs) := by
  have hF := Dk.fuse_clear hf
  cases h : k.fs .new with
  | none =>
    have e : k.remove .new = (5, k) := by unfold Dk.remove; rw [errAt_none ho h]; rfl
    have e2 : k.clear = (0, k) := by unfold Dk.clear; rw [e]; rfl
    rw [e2] at hF ⊢
    refine ⟨⟨.inl ⟨rfl, ho⟩, hF, rfl⟩, fun _ => ?_, fun h => by simp at h⟩
    funext y
    by_cases hy : y = .new
    · subst hy; rw [upd_same, h]
    · rw [upd_ne _ _ _ _ hy]
  | some f =>
    have he := errAt_zero ho h
    by_cases h0 : k.fuse = 0
    · have e : k.remove .new = (250, k.blown) := by unfold Dk.remove; rw [he, if_neg (by simp), if_pos h0]
      have e2 : k.clear = (250, k.blown) := by unfold Dk.clear; rw [e]; rfl
      rw [e2] at hF ⊢
      exact ⟨⟨.inr ⟨rfl, rfl⟩, hF, rfl⟩, fun h => by simp at h, fun _ => rfl⟩
    · have e : k.remove .new = (0, k.burnt.del .new) := by unfold Dk.remove; rw [he, if_neg (by simp), if_neg h0]
      have e2 : k.clear = (0, k.burnt.del .new) := by unfold Dk.clear; rw [e]; rfl
      rw [e2] at hF ⊢
      exact ⟨⟨.inl ⟨rfl, ho⟩, hF, Dk.fs_del_ne _ _ _ (by decide)⟩, fun _ => rfl, fun h => by simp at h⟩

def New0 (k : Dk) : Prop := k.fs .new = none
/-- Clear: the disk goes and no new file is there, or the power has failed; the file is as it was. -/
theorem clear_cases {k : Dk} (hb : Base k) (ho : k.off = false) :
    (k.clear.1 = 0 ∧ k.clear.2.off = false ∧ Base k.clear.2 ∧ k.clear.2.fs .new = none ∧ k.clear.2.get .wal = k.get .wal) ∨
    (k.clear.1 = 250 ∧ k.clear.2.off = true ∧ Base k.clear.2 ∧ k.clear.2.get .wal = k.get .wal) := by
  obtain ⟨⟨h2, hF, hO⟩, hz, hn⟩ := clear_part hb.fuse ho
  rcases h2 with ⟨he, hof⟩ | ⟨he, hof⟩
  · have hfs := hz he
    have hw : k.clear.2.fs .wal = k.fs .wal := by rw [hfs, upd_ne _ _ _ _ (by decide)]
    have hnw : k.clear.2.fs .new = none := by rw [hfs, upd_same]
    have hg := Dk.get_of_eq hw
    exact .inl ⟨he, hof, ⟨hF, hO.trans hb.oth, by rw [hg]; exact hb.wl, by rw [hg]; exact hb.ws, by rw [Dk.get_none hnw]; simp, by rw [Dk.get_none hnw]; simp⟩, hnw, hg⟩
  · have hfs := hn he
    have hg := Dk.get_of_eq (k := k) (k' := k.clear.2) (x := .wal) (by rw [hfs])
    have hg2 := Dk.get_of_eq (k := k) (k' := k.clear.2) (x := .new) (by rw [hfs])
    exact .inr ⟨he, hof, ⟨hF, hO.trans hb.oth, by rw [hg]; exact hb.wl, by rw [hg]; exact hb.ws, by rw [hg2]; exact hb.nl, by rw [hg2]; exact hb.ns⟩, hg⟩
theorem anew_cases {k : Dk} (hb : Base k) (ho : k.off = false) (full : List UInt8) (hl : full.length ≤ 8589934592) :
    ((k.anew full).1 = 0 ∧ (k.anew full).2.off = false ∧ Base (k.anew full).2 ∧ (k.anew full).2.fs .new = none ∧ (k.anew full).2.get .wal = ⟨full, full.length⟩) ∨
    ((k.anew full).1 = 250 ∧ (k.anew full).2.off = true ∧ Base (k.anew full).2 ∧ (k.anew full).2.get .wal = k.get .wal) := by
  rcases clear_cases hb ho with ⟨e1, o1, b1, n1, g1⟩ | ⟨e1, o1, b1, g1⟩
  case inr =>
    have e : k.anew full = k.clear := by simp [Dk.anew, Dk.andThen, e1]
    rw [e]
    exact .inr ⟨e1, o1, b1, g1⟩
  have hA : k.anew full = Dk.andThen (Dk.andThen (k.clear.2.append .new full) (fun k => k.sync .new)) (fun k => k.rename .new .wal) := by simp [Dk.anew, Dk.andThen, e1]
  rw [hA]
  generalize k.clear.2 = k1 at *
  clear hA e1
  obtain ⟨⟨t2, f2, h2⟩, fs2⟩ := append_part (k := k1) (x := .new) (b := full) (by decide) b1.fuse o1
  rw [Dk.get_none n1, List.nil_append] at fs2
  have hn2 : (k1.append .new full).2.fs .new = some ⟨full, 0⟩ := by rw [fs2, upd_same]
  have hw2 : (k1.append .new full).2.get .wal = k.get .wal := by rw [Dk.get_of_eq (k := k1) (by rw [fs2, upd_ne _ _ _ _ (by decide)]), g1]
  rcases t2 with ⟨e2, o2⟩ | ⟨e2, o2⟩
  case inr =>
    have e : Dk.andThen (Dk.andThen (k1.append .new full) (fun k => k.sync .new)) (fun k => k.rename .new .wal) = k1.append .new full := by simp [Dk.andThen, e2]
    rw [e]
    exact .inr ⟨e2, o2, ⟨f2, h2.trans b1.oth, by rw [hw2]; exact hb.wl, by rw [hw2]; exact hb.ws, by rw [Dk.get_some hn2]; simp, by rw [Dk.get_some hn2]; exact hl⟩, hw2⟩
  have hA : Dk.andThen (Dk.andThen (k1.append .new full) (fun k => k.sync .new)) (fun k => k.rename .new .wal) = Dk.andThen ((k1.append .new full).2.sync .new) (fun k => k.rename .new .wal) := by simp [Dk.andThen, e2]
  rw [hA]
  have hO2 := h2.trans b1.oth
  generalize (k1.append .new full).2 = k2 at *
  clear hA e2 h2 fs2
  obtain ⟨⟨t3, f3, h3⟩, fz3, fn3⟩ := sync_part (k := k2) (x := .new) (by decide) f2 o2 hn2
  rcases t3 with ⟨e3, o3⟩ | ⟨e3, o3⟩
  case inr =>
    have e : Dk.andThen (k2.sync .new) (fun k => k.rename .new .wal) = k2.sync .new := by simp [Dk.andThen, e3]
    have fs3 := fn3 e3
    have hg := Dk.get_of_eq (k := k2) (k' := (k2.sync .new).2) (x := .wal) (by rw [fs3])
    have hg2 := Dk.get_of_eq (k := k2) (k' := (k2.sync .new).2) (x := .new) (by rw [fs3])
    rw [hw2] at hg
    rw [Dk.get_some hn2] at hg2
    rw [e]
    exact .inr ⟨e3, o3, ⟨f3, h3.trans hO2, by rw [hg]; exact hb.wl, by rw [hg]; exact hb.ws, by rw [hg2]; simp, by rw [hg2]; exact hl⟩, hg⟩
  have hA : Dk.andThen (k2.sync .new) (fun k => k.rename .new .wal) = (k2.sync .new).2.rename .new .wal := by simp [Dk.andThen, e3]
  rw [hA]
  have fs3 := fz3 e3
  have hn3 : (k2.sync .new).2.fs .new = some ⟨full, full.length⟩ := by rw [fs3, upd_same]
  have hw3 : (k2.sync .new).2.get .wal = k.get .wal := by rw [Dk.get_of_eq (k := k2) (by rw [fs3, upd_ne _ _ _ _ (by decide)]), hw2]
  have hO3 := h3.trans hO2
  generalize (k2.sync .new).2 = k3 at *
  clear hA fs3 fz3 fn3 e3 h3
  obtain ⟨⟨t4, f4, h4⟩, fz4, fn4⟩ := rename_part (k := k3) f3 o3 hn3
  rcases t4 with ⟨e4, o4⟩ | ⟨e4, o4⟩
  · have fs4 := fz4 e4
    have hw : (k3.rename .new .wal).2.fs .wal = some ⟨full, full.length⟩ := by rw [fs4, upd_same]
    have hn : (k3.rename .new .wal).2.fs .new = none := by rw [fs4, upd_ne _ _ _ _ (by decide), upd_same]
    exact .inl ⟨e4, o4, ⟨f4, h4.trans hO3, by rw [Dk.get_some hw]; exact Nat.le_refl _, by rw [Dk.get_some hw]; exact hl, by rw [Dk.get_none hn]; simp, by rw [Dk.get_none hn]; simp⟩, hn, Dk.get_some hw⟩
  · have fs4 := fn4 e4
    have hg := Dk.get_of_eq (k := k3) (k' := (k3.rename .new .wal).2) (x := .wal) (by rw [fs4])
    have hg2 := Dk.get_of_eq (k := k3) (k' := (k3.rename .new .wal).2) (x := .new) (by rw [fs4])
    rw [hw3] at hg
    rw [Dk.get_some hn3] at hg2
    exact .inr ⟨e4, o4, ⟨f4, h4.trans hO3, by rw [hg]; exact hb.wl, by rw [hg]; exact hb.ws, by rw [hg2]; exact Nat.le_refl _, by rw [hg2]; exact hl⟩, hg⟩
theorem more_cases {k : Dk} (hb : Base k) (ho : k.off = false) (hn : k.fs .new = none) (b : List UInt8) (hl : (k.get .wal).b.length + b.length ≤ 8589934592) :
    ((k.more b).1 = 0 ∧ (k.more b).2.off = false ∧ Base (k.more b).2 ∧ (k.more b).2.fs .new = none ∧ (k.more b).2.get .wal = ⟨(k.get .wal).b ++ b, ((k.get .wal).b ++ b).length⟩) ∨
    ((k.more b).1 = 250 ∧ (k.more b).2.off = true ∧ Base (k.more b).2 ∧ (k.more b).2.get .wal = ⟨(k.get .wal).b ++ b, (k.get .wal).last⟩) := by
  obtain ⟨⟨t2, f2, h2⟩, fs2⟩ := append_part (k := k) (x := .wal) (b := b) (by decide) hb.fuse ho
  have hlen : ((k.get .wal).b ++ b).length = (k.get .wal).b.length + b.length := List.length_append
  have hwl := hb.wl
  have hw2 : (k.append .wal b).2.fs .wal = some ⟨(k.get .wal).b ++ b, (k.get .wal).last⟩ := by rw [fs2, upd_same]
  have hn2 : (k.append .wal b).2.fs .new = none := by rw [fs2, upd_ne _ _ _ _ (by decide), hn]
  rcases t2 with ⟨e2, o2⟩ | ⟨e2, o2⟩
  case inr =>
    have e : k.more b = k.append .wal b := by simp [Dk.more, Dk.andThen, e2]
    rw [e]
    exact .inr ⟨e2, o2, ⟨f2, h2.trans hb.oth, by rw [Dk.get_some hw2]; simp only; omega, by rw [Dk.get_some hw2]; simp only; omega, by rw [Dk.get_none hn2]; simp, by rw [Dk.get_none hn2]; simp⟩, Dk.get_some hw2⟩
  have hA : k.more b = (k.append .wal b).2.sync .wal := by simp [Dk.more, Dk.andThen, e2]
  rw [hA]
  have hO2 := h2.trans hb.oth
  generalize (k.append .wal b).2 = k2 at *
  obtain ⟨⟨t3, f3, h3⟩, fz3, fn3⟩ := sync_part (k := k2) (x := .wal) (by decide) f2 o2 hw2
  rcases t3 with ⟨e3, o3⟩ | ⟨e3, o3⟩
  · have fs3 := fz3 e3
    have hw3 : (k2.sync .wal).2.fs .wal = some ⟨(k.get .wal).b ++ b, ((k.get .wal).b ++ b).length⟩ := by rw [fs3, upd_same]
    have hn3 : (k2.sync .wal).2.fs .new = none := by rw [fs3, upd_ne _ _ _ _ (by decide), hn2]
    exact .inl ⟨e3, o3, ⟨f3, h3.trans hO2, by rw [Dk.get_some hw3]; exact Nat.le_refl _, by rw [Dk.get_some hw3]; simp only; omega, by rw [Dk.get_none hn3]; simp, by rw [Dk.get_none hn3]; simp⟩, hn3, Dk.get_some hw3⟩
  · have fs3 := fn3 e3
    have hw3 : (k2.sync .wal).2.fs .wal = some ⟨(k.get .wal).b ++ b, (k.get .wal).last⟩ := by rw [fs3, hw2]
    have hn3 : (k2.sync .wal).2.fs .new = none := by rw [fs3, hn2]
    exact .inr ⟨e3, o3, ⟨f3, h3.trans hO2, by rw [Dk.get_some hw3]; simp only; omega, by rw [Dk.get_some hw3]; simp only; omega, by rw [Dk.get_none hn3]; simp, by rw [Dk.get_none hn3]; simp⟩, Dk.get_some hw3⟩

theorem On.holds {k : Dk} {s : Sv} (h : On k s) : Holds k (fun x => x = s) := by
  intro n h1 h2
  rw [h.last] at h1
  obtain rfl : n = (k.get .wal).b.length := by omega
  rw [List.take_length]
  exact ⟨s, rfl, .inl h.good⟩
theorem Holds.mono {k : Dk} {S S' : Sv → Prop} (h : Holds k S) (hS : ∀ s, S s → S' s) : Holds k S' := fun n h1 h2 => (h n h1 h2).mono hS
theorem Holds.of_get {k k' : Dk} {S : Sv → Prop} (h : Holds k S) (hg : k'.get .wal = k.get .wal) : Holds k' S := by unfold Holds; rw [hg]; exact h

/-- What a Keep does to the disk. -/
theorem kept_cases {k : Dk} {was s : Sv} (h : On k was) (hs : mayB s = true) :
    ((k.kept (k.get .wal).b.length was s).1 = 0 ∧ On (k.kept (k.get .wal).b.length was s).2 s ∧ keptSize (k.get .wal).b.length was s = ((k.kept (k.get .wal).b.length was s).2.get .wal).b.length) ∨
    ((k.kept (k.get .wal).b.length was s).1 = 250 ∧ (k.kept (k.get .wal).b.length was s).2.off = true ∧ Base (k.kept (k.get .wal).b.length was s).2 ∧ Holds (k.kept (k.get .wal).b.length was s).2 (fun x => x = was ∨ x = s)) := by
  have hfl : (fullOf s).length ≤ 573440300 := run_record_le Sv.zero s hs
  have hbl := run_record_le was s hs
  have hgl := h.good.len
  unfold Dk.kept keptSize
  cases hr : rewrites (k.get .wal).b.length was s with
  | true =>
    simp only [if_true]
    rcases anew_cases h.base h.on (fullOf s) (by omega) with ⟨e, o, b, n, g⟩ | ⟨e, o, b, g⟩
    · exact .inl ⟨e, ⟨o, b, n, by rw [g], by rw [g]; exact good_full hs⟩, by rw [g]⟩
    · exact .inr ⟨e, o, b, (h.holds.of_get g).mono (fun x hx => .inl hx)⟩
  | false =>
    have hle : (k.get .wal).b.length + (run (record was s)).length ≤ 4096 + 2 * (fullOf s).length := by
      unfold rewrites at hr
      have := of_decide_eq_false hr
      omega
    simp only [Bool.false_eq_true, if_false]
    cases hc : changed was s with
    | true =>
      simp only [if_true]
      rcases more_cases h.base h.on h.new (run (record was s)) (by omega) with ⟨e, o, b, n, g⟩ | ⟨e, o, b, g⟩
      · exact .inl ⟨e, ⟨o, b, n, by rw [g], by rw [g]; exact h.good.more hs hle⟩, by rw [g]; simp⟩
      · refine .inr ⟨e, o, b, ?_⟩
        intro n h1 h2
        rw [g] at h1 h2 ⊢
        simp only at h1 h2 ⊢
        rw [h.last] at h1
        exact okF_more h.good hs hle n h1 h2
    | false =>
      simp only [Bool.false_eq_true, if_false]
      have : s = was := by
        unfold changed at hc
        cases s; cases was
        simp at hc
        simp [hc]
      subst this
      exact .inl ⟨by trivial, h, by trivial⟩

/-- What an opening does to the disk. -/
theorem opened_cases {k : Dk} {S : Sv → Prop} (hb : Base k) (ho : k.off = false) (hl : (k.get .wal).last = (k.get .wal).b.length) (h : OkF (k.get .wal).b S) :
    ∃ recs q s, S s ∧ Torn q ∧ Chain ⟨0, -1, []⟩ recs s ∧ mayB s = true ∧ (k.get .wal).b = runsOf recs ++ q ∧
      (((k.opened q s).1 = 0 ∧ On (k.opened q s).2 s ∧ openSize recs q s = ((k.opened q s).2.get .wal).b.length) ∨
       ((k.opened q s).1 = 250 ∧ (k.opened q s).2.off = true ∧ Base (k.opened q s).2 ∧ Holds (k.opened q s).2 S)) := by
  have hH : Holds k S := by
    intro n h1 h2
    rw [hl] at h1
    obtain rfl : n = (k.get .wal).b.length := by omega
    rw [List.take_length]
    exact h
  obtain ⟨s, hS, ⟨recs, hF, hc, hs, hlen⟩ | ⟨recs, q, hq, hq0, hF, hc, hs⟩⟩ := h
  · refine ⟨recs, [], s, hS, Torn.nil, hc, hs, by rw [hF, List.append_nil], ?_⟩
    unfold Dk.opened openSize
    simp only [if_true]
    rcases clear_cases hb ho with ⟨e, o, b, n, g⟩ | ⟨e, o, b, g⟩
    · exact .inl ⟨e, ⟨o, b, n, by rw [g]; exact hl, by rw [g]; exact ⟨recs, hF, hc, hs, hlen⟩⟩, by rw [g, hF]⟩
    · exact .inr ⟨e, o, b, hH.of_get g⟩
  · refine ⟨recs, q, s, hS, hq, hc, hs, hF, ?_⟩
    have hfl : (fullOf s).length ≤ 573440300 := run_record_le Sv.zero s hs
    unfold Dk.opened openSize
    rw [if_neg hq0, if_neg hq0]
    rcases anew_cases hb ho (fullOf s) (by omega) with ⟨e, o, b, n, g⟩ | ⟨e, o, b, g⟩
    · exact .inl ⟨e, ⟨o, b, n, by rw [g], by rw [g]; exact good_full hs⟩, by rw [g]⟩
    · exact .inr ⟨e, o, b, hH.of_get g⟩

/-- A crash: what waits is lost, but a beginning of it. -/
def Lost : Option Fl → Option Fl → Prop
  | none, f => f = none
  | some f, g => ∃ n, f.last ≤ n ∧ n ≤ f.b.length ∧ g = some ⟨f.b.take n, n⟩
def Crashed (k k' : Dk) : Prop := k'.off = false ∧ k'.fuse = -1 ∧ ∀ x, Lost (k.fs x) (k'.fs x)
theorem Lost.get {k k' : Dk} {x : Nm} (h : Lost (k.fs x) (k'.fs x)) : ∃ n, (k.get x).last ≤ n ∧ n ≤ (k.get x).b.length ∧ k'.get x = ⟨(k.get x).b.take n, n⟩ := by
  cases hf : k.fs x with
  | none =>
    rw [hf] at h
    refine ⟨0, ?_, Nat.zero_le _, ?_⟩
    · rw [Dk.get_none hf]; simp
    · rw [Dk.get_none hf, Dk.get_none h]; simp
  | some f =>
    rw [hf] at h
    obtain ⟨n, h1, h2, h3⟩ := h
    rw [Dk.get_some hf]
    exact ⟨n, h1, h2, Dk.get_some h3⟩
theorem crash_cases {k k' : Dk} {S : Sv → Prop} (hb : Base k) (hH : Holds k S) (hc : Crashed k k') : Base k' ∧ k'.off = false ∧ (k'.get .wal).last = (k'.get .wal).b.length ∧ OkF (k'.get .wal).b S := by
  obtain ⟨ho, hf, hx⟩ := hc
  obtain ⟨n, w1, w2, w3⟩ := (hx .wal).get
  obtain ⟨j, n1, n2, n3⟩ := (hx .new).get
  have ws := hb.ws
  have ns := hb.ns
  have lw : ((k.get .wal).b.take n).length = n := by rw [List.length_take]; omega
  have ln : ((k.get .new).b.take j).length = j := by rw [List.length_take]; omega
  have hO := hx .other
  rw [hb.oth] at hO
  obtain ⟨i, o1, o2, o3⟩ := hO
  have o2' : i ≤ 10 := o2
  obtain rfl : i = 10 := by simp only at o1; omega
  refine ⟨⟨?_, o3, ?_, ?_, ?_, ?_⟩, ho, ?_, ?_⟩
  · unfold Dk.fuseOk; rw [hf]; omega
  · rw [w3]; simp only; omega
  · rw [w3]; simp only; omega
  · rw [n3]; simp only; omega
  · rw [n3]; simp only; omega
  · rw [w3]; simp only; omega
  · rw [w3]; exact hH n w1 w2

/-- The files are small: what tidy asks. -/
theorem entsBytes_weight (L : List Ent) (h : ∀ x ∈ L, entOk x = true) : (entsBytes L).length ≤ weightL L := by
  induction L with
  | nil => simp [entsBytes]
  | cons x L ih =>
    have h1 := ih (fun y hy => h y (List.mem_cons_of_mem _ hy))
    obtain ⟨h2, h3, h4⟩ := entOk_parts (h x (List.mem_cons_self ..))
    have h5 := uint_le x.term.toNat (by omega)
    have h6 := uint_le x.data.size (by omega)
    have h7 : x.data.data.toList.length = x.data.size := by rw [Array.length_toList]; rfl
    rw [entsBytes_cons, List.length_append]
    simp only [Ent.bytes, List.length_append, weightL]
    omega
theorem Good.small {F : List UInt8} {s : Sv} (h : Good F s) : F.length ≤ 8192 + 4 * (64 + weightL s.log) := by
  obtain ⟨recs, _, _, hs, hl⟩ := h
  have hr : (fullOf s).length ≤ 2 * (record Sv.zero s).length + 13 := run_len _ _ (Nat.le_refl _)
  obtain ⟨h1, h2, h3, h4, h5, h6⟩ := may_parts hs
  have hc : common Sv.zero.log s.log = 0 := by simp [Sv.zero, common]
  have e0 := entsBytes_weight s.log (fun x hx => List.all_eq_true.1 h6 x hx)
  have e1 := uint_le s.term.toNat (by omega)
  have e2 := uint_le (zig s.vote) (by unfold zig; split <;> omega)
  have e3 := uint_le 0 (by omega)
  have e4 := uint_le s.log.length (by omega)
  have hl2 : (record Sv.zero s).length ≤ 36 + weightL s.log := by
    unfold record
    rw [hc, List.drop_zero]
    simp only [recBytes, List.length_append]
    omega
  omega
end Go.Proofs.YtipbfmalacnmkaaGreat
