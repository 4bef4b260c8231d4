/- The disk's calls: Append, Sync, Rename, Remove. -/
import Derived.Test.YtipbfmalacnmkaaGreatDisk3
import Derived.Test.YtipbfmalacnmkaaGreatLoad
namespace Go.Proofs.YtipbfmalacnmkaaGreat
open Go.RowKit Go.Shelf

def Dk.get (k : Dk) (x : Nm) : Fl := (k.fs x).getD Fl.none
def Dk.append (k : Dk) (x : Nm) (bs : List UInt8) : Int × Dk :=
  if k.off then (250, k) else if k.fuse = 0 then (250, k.blown.put x ⟨(k.get x).b ++ bs, (k.get x).last⟩) else (0, k.burnt.put x ⟨(k.get x).b ++ bs, (k.get x).last⟩)
def Dk.sync (k : Dk) (x : Nm) : Int × Dk :=
  if k.errAt x ≠ 0 then (k.errAt x, k) else if k.fuse = 0 then (250, k.blown) else (0, k.burnt.put x ⟨(k.get x).b, (k.get x).b.length⟩)
def Dk.rename (k : Dk) (x y : Nm) : Int × Dk :=
  if k.errAt x ≠ 0 then (k.errAt x, k) else if k.fuse = 0 then (250, k.blown) else (0, (k.burnt.del x).put y (k.get x))
def Dk.remove (k : Dk) (x : Nm) : Int × Dk :=
  if k.errAt x ≠ 0 then (k.errAt x, k) else if k.fuse = 0 then (250, k.blown) else (0, k.burnt.del x)
def Dk.fuseOk (k : Dk) : Prop := -9223372036854775808 < k.fuse ∧ k.fuse < 9223372036854775808
theorem enter43 : ∀ args w, (callFunc 43 args).run Tryz.prog w = .ok (.enter 43 args) w := enters_of Tryz.func43 (by kernel_rfl) rfl
theorem enter49 : ∀ args w, (callFunc 49 args).run Tryz.prog w = .ok (.enter 49 args) w := enters_of Tryz.func49 (by kernel_rfl) rfl
theorem enter78 : ∀ args w, (callFunc 78 args).run Tryz.prog w = .ok (.enter 78 args) w := enters_of Tryz.func78 (by kernel_rfl) rfl
theorem enter84 : ∀ args w, (callFunc 84 args).run Tryz.prog w = .ok (.enter 84 args) w := enters_of Tryz.func84 (by kernel_rfl) rfl

set_option maxRecDepth 10000 in
set_option maxHeartbeats 1000000 in
theorem Append_calls {w : World} {d m : Nat} {k : Dk} (hd : DiskAt w d m k) (hfu : k.fuseOk) (x : Nm) (bv : Value) (bs : List UInt8) (hb : RdB w.heap.size w bv bs) (hsz : (k.get x).b.length + bs.length ≤ 1099511627776) :
    Calls Tryz.prog 19 #[.pointer (some ⟨d, 0, none⟩), x.str, bv] w fun e w' => e = .returned (.int .i64 (k.append x bs).1) ∧ DiskAt w' d m (k.append x bs).2 ∧ Ext [d, m] w w' := by
  obtain ⟨ab, cb, rfl, _, _⟩ := hb.shape
  obtain ⟨ks, hks⟩ : ∃ ks, x.str = .string ks := ⟨_, rfl⟩
  rw [hks]
  have hmf := makeFn
  obtain ⟨W, hW⟩ : ∃ W, W = ((w.alloc (.cells #[.pointer (some ⟨d, 0, none⟩)] 32)).alloc (.cells #[.string ks] 9)).alloc (.cells #[.slice ab bs.length cb] 30) := ⟨_, rfl⟩
  have X : Ext [] w W := by rw [hW]; exact (((Ext.refl [] w).alloc _).alloc _).alloc _
  have r0 : W.heap[w.heap.size]? = some (.cells #[.pointer (some ⟨d, 0, none⟩)] 32 (0, 0)) := by rw [hW]; exact heap_push (heap_push (heap_alloc_new w _) _) _
  have r1 : W.heap[w.heap.size + 1]? = some (.cells #[.string ks] 9 (0, 0)) := by
    have := heap_alloc_new (w.alloc (.cells #[.pointer (some ⟨d, 0, none⟩)] 32)) (.cells #[.string ks] 9)
    simp only [World.size_alloc] at this
    rw [hW]; exact heap_push this _
  have r2 : W.heap[w.heap.size + 1 + 1]? = some (.cells #[.slice ab bs.length cb] 30 (0, 0)) := by
    have := heap_alloc_new ((w.alloc (.cells #[.pointer (some ⟨d, 0, none⟩)] 32)).alloc (.cells #[.string ks] 9)) (.cells #[.slice ab bs.length cb] 30)
    simp only [World.size_alloc] at this
    rw [hW]; exact this
  have zW : W.heap.size = w.heap.size + 1 + 1 + 1 := by rw [hW]; simp only [World.size_alloc]
  have p0 : W.cell? ⟨w.heap.size, 0, none⟩ = some (.pointer (some ⟨d, 0, none⟩)) := by rw [cell_of_row _ _ _ _ _ _ r0]; rfl
  have p1 : W.cell? ⟨w.heap.size + 1, 0, none⟩ = some (.string ks) := by rw [cell_of_row _ _ _ _ _ _ r1]; rfl
  have p2 : W.cell? ⟨w.heap.size + 1 + 1, 0, none⟩ = some (.slice ab bs.length cb) := by rw [cell_of_row _ _ _ _ _ _ r2]; rfl
  have hD := hd.nil X
  have hdl := hd.lt
  have hml := hd.ltm
  have hg := goes_calls hD
  have hbW := RdB.mono (hb.ext X) X.size
  cases hoff : k.off
  · have he : k.err = 0 := by simp [Dk.err, hoff]
    rw [he] at hg
    have hch := change_calls hD 43 #[.pointer (some ⟨w.heap.size, 0, none⟩), .pointer (some ⟨w.heap.size + 1, 0, none⟩), .pointer (some ⟨w.heap.size + 1 + 1, 0, none⟩)] enter43 true hfu.1 hfu.2
      (fun k1 w1 w' => DiskAt w' d m (k1.put x ⟨(k1.get x).b ++ bs, (k1.get x).last⟩) ∧ Ext [m] w1 w') (fun w1 k1 hx1 hd1 hk1 => by
        have hgt : k1.get x = k.get x := by unfold Dk.get; rw [hk1]
        exact append1_calls hd1 x _ _ _ _ bs ((hx1.cellAt (by omega) (by simp; omega)).trans p0) ((hx1.cellAt (by omega) (by simp; omega)).trans (by rw [hks]; exact p1)) ((hx1.cellAt (by omega) (by simp; omega)).trans p2)
          (by have := hx1.size; omega) (by have := hx1.size; omega) (by have := hx1.size; omega) (RdB.mono (Rd.extM hbW hx1 (fun q hq cur fz hc => by
            rw [List.mem_singleton] at hq
            subst hq
            obtain ⟨_, hrow, _⟩ := hD
            rw [hrow] at hc
            cases hc)) hx1.size) (by have := hsz; rw [← hgt] at this; exact this))
    refine Calls.mono (R := fun e w' => (k.fuse = 0 ∧ e = .returned (.int .i64 250) ∧ ∃ w1, Ext [d] W w1 ∧ DiskAt w1 d m k.blown ∧ (DiskAt w' d m (k.blown.put x ⟨(k.blown.get x).b ++ bs, (k.blown.get x).last⟩) ∧ Ext [m] w1 w')) ∨
      (k.fuse ≠ 0 ∧ e = .returned (.int .i64 0) ∧ ∃ w1, Ext [d] W w1 ∧ DiskAt w1 d m k.burnt ∧ (DiskAt w' d m (k.burnt.put x ⟨(k.burnt.get x).b ++ bs, (k.burnt.get x).last⟩) ∧ Ext [m] w1 w'))) ?_ ?_
    · have HC := Lib.hid hch
      clear hch
      go_enter Tryz.func19, Tryz.ntmps19
      go_upto_region 1 with fail
      rw [← hW]
      clear hW
      go_wp2_with (first
        | (go_at_call 41; refine hg.mono ?_; rintro e w' ⟨rfl, rfl⟩)
        | (go_at_call 42; refine HC.out.mono ?_; rintro e w' (⟨hz, rfl, w1, hx1, hd1, hR⟩ | ⟨hz, rfl, w1, hx1, hd1, hR⟩)))
      · go_ret
        exact .inl ⟨hz, rfl, w1, hx1, hd1, by simpa using hR⟩
      · go_ret
        exact .inr ⟨hz, rfl, w1, hx1, hd1, hR⟩
    · have hng : k.errAt x = k.errAt x := rfl
      have HM : ∀ w1 w', Ext [d] W w1 → Ext [m] w1 w' → Ext [d, m] w w' := fun w1 w' h1 h2 =>
        (((Ext.refl [d, m] w).cut (M1 := []) X (by simp)).cut (M1 := [d]) h1 (by simp)).cut (M1 := [m]) h2 (by simp)
      unfold Dk.append
      rw [hoff]
      rintro e w' (⟨hz, rfl, w1, hx1, hd1, h1, h2⟩ | ⟨hz, rfl, w1, hx1, hd1, h1, h2⟩)
      · rw [if_neg (by simp), if_pos hz]
        exact ⟨rfl, h1, HM w1 w' hx1 h2⟩
      · rw [if_neg (by simp), if_neg hz]
        exact ⟨rfl, h1, HM w1 w' hx1 h2⟩
  · have he : k.err = 250 := by simp [Dk.err, hoff]
    rw [he] at hg
    unfold Dk.append
    rw [hoff, if_pos rfl]
    go_enter Tryz.func19, Tryz.ntmps19
    go_upto_region 1 with fail
    rw [← hW]
    clear hW
    go_wp2_with (go_at_call 41; refine hg.mono ?_; rintro e w' ⟨rfl, rfl⟩)
    go_ret
    exact ⟨rfl, hD, X.mono (by simp)⟩

set_option maxRecDepth 10000 in
set_option maxHeartbeats 1000000 in
theorem Sync_calls {w : World} {d m : Nat} {k : Dk} (hd : DiskAt w d m k) (hfu : k.fuseOk) (x : Nm) :
    Calls Tryz.prog 26 #[.pointer (some ⟨d, 0, none⟩), x.str] w fun e w' => e = .returned (.int .i64 (Dk.sync k x).1) ∧ DiskAt w' d m (Dk.sync k x).2 ∧ Ext [d, m] w w' := by
  obtain ⟨ks, hks⟩ : ∃ ks, x.str = .string ks := ⟨_, rfl⟩
  rw [hks]
  have hmf := makeFn
  obtain ⟨W, hW⟩ : ∃ W, W = (w.alloc (.cells #[.pointer (some ⟨d, 0, none⟩)] 32)).alloc (.cells #[.string ks] 9) := ⟨_, rfl⟩
  have X : Ext [] w W := by rw [hW]; exact ((Ext.refl [] w).alloc _).alloc _
  have r0 : W.heap[w.heap.size]? = some (.cells #[.pointer (some ⟨d, 0, none⟩)] 32 (0, 0)) := by rw [hW]; exact heap_push (heap_alloc_new w _) _
  have r1 : W.heap[w.heap.size + 1]? = some (.cells #[.string ks] 9 (0, 0)) := by
    have := heap_alloc_new (w.alloc (.cells #[.pointer (some ⟨d, 0, none⟩)] 32)) (.cells #[.string ks] 9)
    simp only [World.size_alloc] at this
    rw [hW]; exact this
  have zW : W.heap.size = w.heap.size + 1 + 1 := by rw [hW]; simp only [World.size_alloc]
  have p0 : W.cell? ⟨w.heap.size, 0, none⟩ = some (.pointer (some ⟨d, 0, none⟩)) := by rw [cell_of_row _ _ _ _ _ _ r0]; rfl
  have p1 : W.cell? ⟨w.heap.size + 1, 0, none⟩ = some (.string ks) := by rw [cell_of_row _ _ _ _ _ _ r1]; rfl
  have hD := hd.nil X
  have hdl := hd.lt
  have hml := hd.ltm
  have hth := there_calls hD x
  rw [hks] at hth
  have HM : ∀ w0 w1 w', Ext [] W w0 → Ext [d] w0 w1 → Ext [m] w1 w' → Ext [d, m] w w' := fun w0 w1 w' h0 h1 h2 =>
    ((((Ext.refl [d, m] w).cut (M1 := []) X (by simp)).cut (M1 := []) h0 (by simp)).cut (M1 := [d]) h1 (by simp)).cut (M1 := [m]) h2 (by simp)
  by_cases he : k.errAt x = 0
  · have hoff : k.off = false := by
      cases hoff : k.off
      · rfl
      · simp [Dk.errAt, hoff] at he
    have hsome : ∃ f, k.fs x = some f := by
      cases hf : k.fs x with
      | some f => exact ⟨f, rfl⟩
      | none => simp [Dk.errAt, hoff, hf] at he
    obtain ⟨f, hf⟩ := hsome
    have hgf : k.get x = f := by simp [Dk.get, hf]
    have hch : ∀ w0, Ext [] W w0 → _ := fun w0 x0 => change_calls (hD.nil x0) 49 #[.pointer (some ⟨w.heap.size, 0, none⟩), .pointer (some ⟨w.heap.size + 1, 0, none⟩)] enter49 false hfu.1 hfu.2
      (fun k1 w1 w' => DiskAt w' d m (k1.put x ⟨(k.get x).b, (k.get x).b.length⟩) ∧ Ext [m] w1 w') (fun w1 k1 hx1 hd1 hk1 => by
        have z0 := x0.size
        have z1 := hx1.size
        rw [hgf]
        exact sync1_calls hd1 x _ _ ((hx1.cellAt (by omega) (by simp; omega)).trans ((x0.cellAt (by omega) (by simp)).trans p0)) ((hx1.cellAt (by omega) (by simp; omega)).trans ((x0.cellAt (by omega) (by simp)).trans (by rw [hks]; exact p1))) (by omega) (by omega) f (by rw [hk1]; exact hf))
    rw [he] at hth
    unfold Dk.sync
    rw [if_neg (by simpa using he)]
    refine Calls.mono (R := fun e w' => (k.fuse = 0 ∧ e = .returned (.int .i64 250) ∧ ∃ w0 w1, Ext [] W w0 ∧ Ext [d] w0 w1 ∧ DiskAt w1 d m k.blown ∧ w' = w1) ∨
      (k.fuse ≠ 0 ∧ e = .returned (.int .i64 0) ∧ ∃ w0 w1, Ext [] W w0 ∧ Ext [d] w0 w1 ∧ DiskAt w1 d m k.burnt ∧ (DiskAt w' d m (k.burnt.put x ⟨(k.get x).b, (k.get x).b.length⟩) ∧ Ext [m] w1 w'))) ?_ ?_
    · have HC := Lib.hid hch
      have HTH := Lib.hid hth
      clear hch hth hf hgf he
      go_enter Tryz.func26, Tryz.ntmps26
      go_upto_region 1 with fail
      rw [← hW]
      clear hW
      go_wp2_with (first
        | (go_at_call 48; refine HTH.out.mono ?_; rintro e w0 ⟨rfl, x0⟩; have t0 := (x0.cellAt (by omega) (by simp)).trans p0)
        | (go_at_call 42; refine (HC.out _ x0).mono ?_; rintro e w' (⟨hz, rfl, w1, hx1, hd1, hR⟩ | ⟨hz, rfl, w1, hx1, hd1, hR⟩)))
      · go_ret
        exact .inl ⟨hz, rfl, w0, w1, x0, hx1, hd1, by simpa using hR⟩
      · go_ret
        exact .inr ⟨hz, rfl, w0, w1, x0, hx1, hd1, hR⟩
    · rintro e w' (⟨hz, rfl, w0, w1, hx0, hx1, hd1, rfl⟩ | ⟨hz, rfl, w0, w1, hx0, hx1, hd1, h1, h2⟩)
      · rw [if_pos hz]
        exact ⟨rfl, hd1, HM w0 w' w' hx0 hx1 (Ext.refl _ _)⟩
      · rw [if_neg hz]
        exact ⟨rfl, h1, HM w0 w1 w' hx0 hx1 h2⟩
  · unfold Dk.sync
    rw [if_pos (by simpa using he)]
    have hne : (k.errAt x == 0) = false := by simpa using he
    have HTH := Lib.hid hth
    clear hth he
    go_enter Tryz.func26, Tryz.ntmps26
    go_upto_region 1 with fail
    rw [← hW]
    clear hW
    go_wp2_with (go_at_call 48; refine HTH.out.mono ?_; rintro e w0 ⟨rfl, x0⟩)
    go_ret
    exact ⟨rfl, hD.nil x0, (X.trans x0).mono (by simp)⟩

set_option maxRecDepth 10000 in
set_option maxHeartbeats 1000000 in
theorem Rename_calls {w : World} {d m : Nat} {k : Dk} (hd : DiskAt w d m k) (hfu : k.fuseOk) (x y : Nm) :
    Calls Tryz.prog 61 #[.pointer (some ⟨d, 0, none⟩), x.str, y.str] w fun e w' => e = .returned (.int .i64 (Dk.rename k x y).1) ∧ DiskAt w' d m (Dk.rename k x y).2 ∧ Ext [d, m] w w' := by
  obtain ⟨ks, hks⟩ : ∃ ks, x.str = .string ks := ⟨_, rfl⟩
  obtain ⟨kt, hkt⟩ : ∃ kt, y.str = .string kt := ⟨_, rfl⟩
  rw [hks]
  rw [hkt]
  have hmf := makeFn
  obtain ⟨W, hW⟩ : ∃ W, W = ((w.alloc (.cells #[.pointer (some ⟨d, 0, none⟩)] 32)).alloc (.cells #[.string ks] 9)).alloc (.cells #[.string kt] 9) := ⟨_, rfl⟩
  have X : Ext [] w W := by rw [hW]; exact (((Ext.refl [] w).alloc _).alloc _).alloc _
  have r0 : W.heap[w.heap.size]? = some (.cells #[.pointer (some ⟨d, 0, none⟩)] 32 (0, 0)) := by rw [hW]; exact heap_push (heap_push (heap_alloc_new w _) _) _
  have r1 : W.heap[w.heap.size + 1]? = some (.cells #[.string ks] 9 (0, 0)) := by
    have := heap_alloc_new (w.alloc (.cells #[.pointer (some ⟨d, 0, none⟩)] 32)) (.cells #[.string ks] 9)
    simp only [World.size_alloc] at this
    rw [hW]; exact heap_push this _
  have r2 : W.heap[w.heap.size + 1 + 1]? = some (.cells #[.string kt] 9 (0, 0)) := by
    have := heap_alloc_new ((w.alloc (.cells #[.pointer (some ⟨d, 0, none⟩)] 32)).alloc (.cells #[.string ks] 9)) (.cells #[.string kt] 9)
    simp only [World.size_alloc] at this
    rw [hW]; exact this
  have zW : W.heap.size = w.heap.size + 1 + 1 + 1 := by rw [hW]; simp only [World.size_alloc]
  have p0 : W.cell? ⟨w.heap.size, 0, none⟩ = some (.pointer (some ⟨d, 0, none⟩)) := by rw [cell_of_row _ _ _ _ _ _ r0]; rfl
  have p1 : W.cell? ⟨w.heap.size + 1, 0, none⟩ = some (.string ks) := by rw [cell_of_row _ _ _ _ _ _ r1]; rfl
  have p2 : W.cell? ⟨w.heap.size + 1 + 1, 0, none⟩ = some (.string kt) := by rw [cell_of_row _ _ _ _ _ _ r2]; rfl
  have hD := hd.nil X
  have hdl := hd.lt
  have hml := hd.ltm
  have hth := there_calls hD x
  rw [hks] at hth
  have HM : ∀ w0 w1 w', Ext [] W w0 → Ext [d] w0 w1 → Ext [m] w1 w' → Ext [d, m] w w' := fun w0 w1 w' h0 h1 h2 =>
    ((((Ext.refl [d, m] w).cut (M1 := []) X (by simp)).cut (M1 := []) h0 (by simp)).cut (M1 := [d]) h1 (by simp)).cut (M1 := [m]) h2 (by simp)
  by_cases he : k.errAt x = 0
  · have hoff : k.off = false := by
      cases hoff : k.off
      · rfl
      · simp [Dk.errAt, hoff] at he
    have hsome : ∃ f, k.fs x = some f := by
      cases hf : k.fs x with
      | some f => exact ⟨f, rfl⟩
      | none => simp [Dk.errAt, hoff, hf] at he
    obtain ⟨f, hf⟩ := hsome
    have hgf : k.get x = f := by simp [Dk.get, hf]
    have hch : ∀ w0, Ext [] W w0 → _ := fun w0 x0 => change_calls (hD.nil x0) 78 #[.pointer (some ⟨w.heap.size, 0, none⟩), .pointer (some ⟨w.heap.size + 1, 0, none⟩), .pointer (some ⟨w.heap.size + 1 + 1, 0, none⟩)] enter78 false hfu.1 hfu.2
      (fun k1 w1 w' => DiskAt w' d m ((k1.del x).put y (k.get x)) ∧ Ext [m] w1 w') (fun w1 k1 hx1 hd1 hk1 => by
        have z0 := x0.size
        have z1 := hx1.size
        rw [hgf]
        exact rename1_calls hd1 x y _ _ _ ((hx1.cellAt (by omega) (by simp; omega)).trans ((x0.cellAt (by omega) (by simp)).trans p0)) ((hx1.cellAt (by omega) (by simp; omega)).trans ((x0.cellAt (by omega) (by simp)).trans (by rw [hks]; exact p1))) ((hx1.cellAt (by omega) (by simp; omega)).trans ((x0.cellAt (by omega) (by simp)).trans (by rw [hkt]; exact p2))) (by omega) (by omega) (by omega) (by omega) (by omega) (by omega) f (by rw [hk1]; exact hf))
    rw [he] at hth
    unfold Dk.rename
    rw [if_neg (by simpa using he)]
    refine Calls.mono (R := fun e w' => (k.fuse = 0 ∧ e = .returned (.int .i64 250) ∧ ∃ w0 w1, Ext [] W w0 ∧ Ext [d] w0 w1 ∧ DiskAt w1 d m k.blown ∧ w' = w1) ∨
      (k.fuse ≠ 0 ∧ e = .returned (.int .i64 0) ∧ ∃ w0 w1, Ext [] W w0 ∧ Ext [d] w0 w1 ∧ DiskAt w1 d m k.burnt ∧ (DiskAt w' d m ((k.burnt.del x).put y (k.get x)) ∧ Ext [m] w1 w'))) ?_ ?_
    · have HC := Lib.hid hch
      have HTH := Lib.hid hth
      clear hch hth hf hgf he
      go_enter Tryz.func61, Tryz.ntmps61
      go_upto_region 1 with fail
      rw [← hW]
      clear hW
      go_wp2_with (first
        | (go_at_call 48; refine HTH.out.mono ?_; rintro e w0 ⟨rfl, x0⟩; have t0 := (x0.cellAt (by omega) (by simp)).trans p0)
        | (go_at_call 42; refine (HC.out _ x0).mono ?_; rintro e w' (⟨hz, rfl, w1, hx1, hd1, hR⟩ | ⟨hz, rfl, w1, hx1, hd1, hR⟩)))
      · go_ret
        exact .inl ⟨hz, rfl, w0, w1, x0, hx1, hd1, by simpa using hR⟩
      · go_ret
        exact .inr ⟨hz, rfl, w0, w1, x0, hx1, hd1, hR⟩
    · rintro e w' (⟨hz, rfl, w0, w1, hx0, hx1, hd1, rfl⟩ | ⟨hz, rfl, w0, w1, hx0, hx1, hd1, h1, h2⟩)
      · rw [if_pos hz]
        exact ⟨rfl, hd1, HM w0 w' w' hx0 hx1 (Ext.refl _ _)⟩
      · rw [if_neg hz]
        exact ⟨rfl, h1, HM w0 w1 w' hx0 hx1 h2⟩
  · unfold Dk.rename
    rw [if_pos (by simpa using he)]
    have hne : (k.errAt x == 0) = false := by simpa using he
    have HTH := Lib.hid hth
    clear hth he
    go_enter Tryz.func61, Tryz.ntmps61
    go_upto_region 1 with fail
    rw [← hW]
    clear hW
    go_wp2_with (go_at_call 48; refine HTH.out.mono ?_; rintro e w0 ⟨rfl, x0⟩)
    go_ret
    exact ⟨rfl, hD.nil x0, (X.trans x0).mono (by simp)⟩

set_option maxRecDepth 10000 in
set_option maxHeartbeats 1000000 in
theorem Remove_calls {w : World} {d m : Nat} {k : Dk} (hd : DiskAt w d m k) (hfu : k.fuseOk) (x : Nm) :
    Calls Tryz.prog 68 #[.pointer (some ⟨d, 0, none⟩), x.str] w fun e w' => e = .returned (.int .i64 (Dk.remove k x).1) ∧ DiskAt w' d m (Dk.remove k x).2 ∧ Ext [d, m] w w' := by
  obtain ⟨ks, hks⟩ : ∃ ks, x.str = .string ks := ⟨_, rfl⟩
  rw [hks]
  have hmf := makeFn
  obtain ⟨W, hW⟩ : ∃ W, W = (w.alloc (.cells #[.pointer (some ⟨d, 0, none⟩)] 32)).alloc (.cells #[.string ks] 9) := ⟨_, rfl⟩
  have X : Ext [] w W := by rw [hW]; exact ((Ext.refl [] w).alloc _).alloc _
  have r0 : W.heap[w.heap.size]? = some (.cells #[.pointer (some ⟨d, 0, none⟩)] 32 (0, 0)) := by rw [hW]; exact heap_push (heap_alloc_new w _) _
  have r1 : W.heap[w.heap.size + 1]? = some (.cells #[.string ks] 9 (0, 0)) := by
    have := heap_alloc_new (w.alloc (.cells #[.pointer (some ⟨d, 0, none⟩)] 32)) (.cells #[.string ks] 9)
    simp only [World.size_alloc] at this
    rw [hW]; exact this
  have zW : W.heap.size = w.heap.size + 1 + 1 := by rw [hW]; simp only [World.size_alloc]
  have p0 : W.cell? ⟨w.heap.size, 0, none⟩ = some (.pointer (some ⟨d, 0, none⟩)) := by rw [cell_of_row _ _ _ _ _ _ r0]; rfl
  have p1 : W.cell? ⟨w.heap.size + 1, 0, none⟩ = some (.string ks) := by rw [cell_of_row _ _ _ _ _ _ r1]; rfl
  have hD := hd.nil X
  have hdl := hd.lt
  have hml := hd.ltm
  have hth := there_calls hD x
  rw [hks] at hth
  have HM : ∀ w0 w1 w', Ext [] W w0 → Ext [d] w0 w1 → Ext [m] w1 w' → Ext [d, m] w w' := fun w0 w1 w' h0 h1 h2 =>
    ((((Ext.refl [d, m] w).cut (M1 := []) X (by simp)).cut (M1 := []) h0 (by simp)).cut (M1 := [d]) h1 (by simp)).cut (M1 := [m]) h2 (by simp)
  by_cases he : k.errAt x = 0
  · have hoff : k.off = false := by
      cases hoff : k.off
      · rfl
      · simp [Dk.errAt, hoff] at he
    have hsome : ∃ f, k.fs x = some f := by
      cases hf : k.fs x with
      | some f => exact ⟨f, rfl⟩
      | none => simp [Dk.errAt, hoff, hf] at he
    obtain ⟨f, hf⟩ := hsome
    have hgf : k.get x = f := by simp [Dk.get, hf]
    have hch : ∀ w0, Ext [] W w0 → _ := fun w0 x0 => change_calls (hD.nil x0) 84 #[.pointer (some ⟨w.heap.size, 0, none⟩), .pointer (some ⟨w.heap.size + 1, 0, none⟩)] enter84 false hfu.1 hfu.2
      (fun k1 w1 w' => DiskAt w' d m (k1.del x) ∧ Ext [m] w1 w') (fun w1 k1 hx1 hd1 hk1 => by
        have z0 := x0.size
        have z1 := hx1.size
        exact remove1_calls hd1 x _ _ ((hx1.cellAt (by omega) (by simp; omega)).trans ((x0.cellAt (by omega) (by simp)).trans p0)) ((hx1.cellAt (by omega) (by simp; omega)).trans ((x0.cellAt (by omega) (by simp)).trans (by rw [hks]; exact p1))))
    rw [he] at hth
    unfold Dk.remove
    rw [if_neg (by simpa using he)]
    refine Calls.mono (R := fun e w' => (k.fuse = 0 ∧ e = .returned (.int .i64 250) ∧ ∃ w0 w1, Ext [] W w0 ∧ Ext [d] w0 w1 ∧ DiskAt w1 d m k.blown ∧ w' = w1) ∨
      (k.fuse ≠ 0 ∧ e = .returned (.int .i64 0) ∧ ∃ w0 w1, Ext [] W w0 ∧ Ext [d] w0 w1 ∧ DiskAt w1 d m k.burnt ∧ (DiskAt w' d m (k.burnt.del x) ∧ Ext [m] w1 w'))) ?_ ?_
    · have HC := Lib.hid hch
      have HTH := Lib.hid hth
      clear hch hth hf hgf he
      go_enter Tryz.func68, Tryz.ntmps68
      go_upto_region 1 with fail
      rw [← hW]
      clear hW
      go_wp2_with (first
        | (go_at_call 48; refine HTH.out.mono ?_; rintro e w0 ⟨rfl, x0⟩; have t0 := (x0.cellAt (by omega) (by simp)).trans p0)
        | (go_at_call 42; refine (HC.out _ x0).mono ?_; rintro e w' (⟨hz, rfl, w1, hx1, hd1, hR⟩ | ⟨hz, rfl, w1, hx1, hd1, hR⟩)))
      · go_ret
        exact .inl ⟨hz, rfl, w0, w1, x0, hx1, hd1, by simpa using hR⟩
      · go_ret
        exact .inr ⟨hz, rfl, w0, w1, x0, hx1, hd1, hR⟩
    · rintro e w' (⟨hz, rfl, w0, w1, hx0, hx1, hd1, rfl⟩ | ⟨hz, rfl, w0, w1, hx0, hx1, hd1, h1, h2⟩)
      · rw [if_pos hz]
        exact ⟨rfl, hd1, HM w0 w' w' hx0 hx1 (Ext.refl _ _)⟩
      · rw [if_neg hz]
        exact ⟨rfl, h1, HM w0 w1 w' hx0 hx1 h2⟩
  · unfold Dk.remove
    rw [if_pos (by simpa using he)]
    have hne : (k.errAt x == 0) = false := by simpa using he
    have HTH := Lib.hid hth
    clear hth he
    go_enter Tryz.func68, Tryz.ntmps68
    go_upto_region 1 with fail
    rw [← hW]
    clear hW
    go_wp2_with (go_at_call 48; refine HTH.out.mono ?_; rintro e w0 ⟨rfl, x0⟩)
    go_ret
    exact ⟨rfl, hD.nil x0, (X.trans x0).mono (by simp)⟩
end Go.Proofs.YtipbfmalacnmkaaGreat
