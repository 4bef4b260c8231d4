/- What WalRefuses needs of the world ahead of its walk: the keeping by hand, the fuse, the power that fails. -/
import Derived.Test.YtipbfmalacnmkaaGreatAwake
namespace Go.Proofs.YtipbfmalacnmkaaGreat
open Go.RowKit Go.Shelf

/-- Behind a Keep by hand: the wal tells s, the world holds was yet. -/
structure XMid (B : Nat) (w : World) (x d m g : Nat) (k : Dk) (was s : Sv) (sv : Value) (p : Sv) (pv lv : Value) : Prop where
  xb : XBase B w x d m k (.pointer (some ⟨g, 0, none⟩)) was sv p pv false
  on : On k s
  bg : B ≤ g
  wal : WalRow w g d s.term s.vote lv (k.get .wal).b.length false
  rl : RdE w.heap.size w lv s.log
theorem XMid.nil {B x d m g : Nat} {w w' : World} {k : Dk} {sv pv lv : Value} {was s p : Sv} (h : XMid B w x d m g k was s sv p pv lv) (hx : Ext [] w w') : XMid B w' x d m g k was s sv p pv lv :=
  ⟨h.xb.nil hx, h.on, h.bg, h.wal.ext hx (by simp), RdE.mono (RdE.ext h.rl hx) hx.size⟩

theorem keep_mid {B x d m g : Nat} {w : World} {k : Dk} {sv pv lv : Value} {was s p : Sv} (h : XWal B w x d m g k was sv p pv lv false) (hf : k.fuse = -1) (u : Value) (hu : RdE w.heap.size w u s.log) (hs : mayB s = true) :
    Calls Tryz.prog 12 #[.pointer (some ⟨g, 0, none⟩), .agg #[.int .i64 s.term, .int .i64 s.vote, u]] w fun e w' => e = .returned (.int .i64 0) ∧ Ext [d, m, g] w w' ∧ ∃ k' lv', XMid B w' x d m g k' was s sv p pv lv' ∧ k'.fuse = -1 := by
  refine (Keep_calls h.xb.disk h.on.base.fuse h.on.on h.wal h.rl s u hu hs (by have := h.on.good.len; omega) (by have := h.on.good.len; omega)).mono ?_
  rintro e w' ⟨he, hd, hx, hor⟩
  have hcalm := Calm.kept ⟨h.on.on, hf⟩ (k.get .wal).b.length was s
  rcases kept_cases h.on hs with ⟨h0, hon, hsz⟩ | ⟨_, hoff, _⟩
  · rw [h0] at he
    rcases hor with ⟨hne, _⟩ | ⟨_, lv', hw', ho⟩
    · exact absurd h0 hne
    · rw [hsz] at hw'
      have hxn : x ∉ [d, m, g] := by
        simp only [List.mem_cons, List.not_mem_nil, or_false, not_or]
        exact ⟨(h.xb.row.ne_disk h.xb.disk).1, (h.xb.row.ne_disk h.xb.disk).2, h.xb.row.ne_wal h.wal⟩
      exact ⟨he, hx, _, lv', ⟨⟨h.xb.row.ext hx hxn, hd, hon.base, h.xb.bx, h.xb.bd, h.xb.bm, Rd.here (RdE.turned h.xb.rs hx h.xb.disk h.wal), Rd.here (RdE.turned h.xb.rp hx h.xb.disk h.wal), h.xb.ms⟩, hon, h.bg, hw', ho.rd⟩, hcalm.2⟩
  · rw [hcalm.1] at hoff
    cases hoff

theorem XMid.store {B x d m g : Nat} {w : World} {k : Dk} {sv pv lv u : Value} {was s p : Sv} (h : XMid B w x d m g k was s sv p pv lv) (hu : RdE w.heap.size w u s.log) (hs : mayB s = true) :
    XWal B (((w.setCell ⟨x, 2, none⟩ (.int .i64 s.term)).setCell ⟨x, 3, none⟩ (.int .i64 s.vote)).setCell ⟨x, 4, none⟩ u) x d m g k s u p pv lv false ∧
    Ext [x] w (((w.setCell ⟨x, 2, none⟩ (.int .i64 s.term)).setCell ⟨x, 3, none⟩ (.int .i64 s.vote)).setCell ⟨x, 4, none⟩ u) := by
  have row := h.xb.row.setSure s u
  have XX : Ext [x] w (((w.setCell ⟨x, 2, none⟩ (.int .i64 s.term)).setCell ⟨x, 3, none⟩ (.int .i64 s.vote)).setCell ⟨x, 4, none⟩ u) :=
    (((Ext.refl [x] w).setCell (p := ⟨x, 2, none⟩) (.inl (by simp)) _).setCell (p := ⟨x, 3, none⟩) (.inl (by simp)) _).setCell (p := ⟨x, 4, none⟩) (.inl (by simp)) _
  have hxd := h.xb.row.ne_disk h.xb.disk
  have hxg := h.xb.row.ne_wal h.wal
  have nx : ∀ q, q ∈ [x] → ∀ cur t fz, t ≠ 35 → w.heap[q]? ≠ some (.cells cur t fz) := fun q hq cur t fz ht => by
    rw [List.mem_singleton] at hq
    subst hq
    exact h.xb.row.notCells ht cur fz
  have rd : ∀ {v : Value} {L : List Ent}, RdE w.heap.size w v L → RdE (((w.setCell ⟨x, 2, none⟩ (.int .i64 s.term)).setCell ⟨x, 3, none⟩ (.int .i64 s.vote)).setCell ⟨x, 4, none⟩ u).heap.size (((w.setCell ⟨x, 2, none⟩ (.int .i64 s.term)).setCell ⟨x, 3, none⟩ (.int .i64 s.vote)).setCell ⟨x, 4, none⟩ u) v L :=
    fun hr => Rd.here (Rd.extM hr XX (fun q hq cur fz => nx q hq cur 29 fz (by decide)) (fun _ t ht q hq cur fz => nx q hq cur t fz ht.ne))
  refine ⟨⟨⟨row, h.xb.disk.ext XX (fun q hq => ?_), h.xb.base, h.xb.bx, h.xb.bd, h.xb.bm, rd hu, rd h.xb.rp, hs⟩, h.on, h.bg, h.wal.ext XX (by simp; omega), rd h.rl⟩, XX⟩
  rw [List.mem_singleton] at hq
  subst hq
  exact ⟨hxd.1, hxd.2, fun cur fz => nx _ (by simp) cur 5 fz (by decide)⟩

theorem same_zero (w : World) : Calls Tryz.prog 15 #[.agg #[.int .i64 0, .int .i64 0, .slice none 0 0], .agg #[.int .i64 0, .int .i64 0, .slice none 0 0]] w fun e w' => e = .returned (.bool true) ∧ Below w.heap.size w w' := by
  have h := Same_calls (.slice none 0 0) (.slice none 0 0) ⟨0, 0, []⟩ ⟨0, 0, []⟩ w (RdE.nil _ _) (RdE.nil _ _)
  have e : sameB ⟨0, 0, []⟩ ⟨0, 0, []⟩ = true := by decide
  rw [e] at h
  exact h

/-- What the end of WalRefuses finds: the fuse is set, what is appended burns it, an opening and a keeping tell that the power has failed. -/
def kF (k : Dk) : Dk := (k.setFuse 0).2
def kO (k : Dk) : Dk := ((kF k).append .other []).2
theorem kF_facts {k : Dk} {s : Sv} (h : On k s) : (k.setFuse 0).1 = 0 ∧ (kF k).fuseOk ∧ ((kF k).get .other).b.length + 0 ≤ 1099511627776 ∧ ((kF k).append .other []).1 = 250 ∧ (kO k).off = true ∧ ((kO k).get .wal).b.length ≤ 1099511627776 := by
  have ho := h.on
  have hot := h.base.oth
  have hws := h.base.ws
  have e : k.setFuse 0 = (0, { k with fuse := 0 }) := by
    unfold Dk.setFuse
    rw [ho]
    simp
  have e2 : kF k = { k with fuse := 0 } := by unfold kF; rw [e]
  have e3 : (kF k).append .other [] = (250, (kF k).blown.put .other ⟨((kF k).get .other).b ++ [], ((kF k).get .other).last⟩) := by
    unfold Dk.append
    rw [e2]
    simp [ho]
  refine ⟨by rw [e], ?_, ?_, by rw [e3], ?_, ?_⟩
  · rw [e2]; unfold Dk.fuseOk; simp
  · rw [e2]; unfold Dk.get; simp only [hot]; simp [leftB]
  · unfold kO; rw [e3]; rfl
  · unfold kO; rw [e3, e2]
    have : ((Dk.put (Dk.blown { k with fuse := 0 }) .other ⟨((Dk.get { k with fuse := 0 } .other)).b ++ [], (Dk.get { k with fuse := 0 } .other).last⟩).get .wal) = k.get .wal := Dk.get_of_eq (by simp [Dk.put, Dk.blown, upd])
    rw [this]
    omega
theorem kO_append {k : Dk} {s : Sv} (h : On k s) : (kF k).append .other [] = (250, kO k) := by
  have := (kF_facts h).2.2.2.1
  unfold kO
  rw [← this]

/-- The world's open, where there is no fuse. -/
theorem open_on {B x : Nat} {w : World} {k : Dk} {s : Sv} (h : XOn B w x k s) (hf : k.fuse = -1) : Calls Tryz.prog 9 #[.pointer (some ⟨x, 0, none⟩)] w fun e w' => e = .returned (.bool true) ∧ Below B w w' ∧ ∃ k' s', XOn B w' x k' s' ∧ k'.fuse = -1 := by
  obtain ⟨p, hr⟩ := h.ready
  refine (wopen_calls hr).mono ?_
  rintro e w' ⟨he, hb, ⟨k', s', hon, _, hf'⟩ | ⟨_, hne⟩⟩
  · exact ⟨he, hb, k', s', hon, hf' hf⟩
  · exact absurd hf hne

/-- What the Keep of the argument comes to. -/
def KeepRes (B : Nat) (w : World) (x d m g : Nat) (was s : Sv) (sv : Value) (p : Sv) (pv : Value) (bm : Bool) (r : Int) (w' : World) : Prop :=
  (bm = false ∧ r = 3 ∧ Ext [] w w') ∨ (bm = true ∧ r = 0 ∧ Ext [d, m, g] w w' ∧ ∃ k' lv', XMid B w' x d m g k' was s sv p pv lv' ∧ k'.fuse = -1)
theorem KeepRes.ext {B x d m g : Nat} {w w' : World} {sv pv : Value} {was s p : Sv} {bm : Bool} {r : Int} (h : KeepRes B w x d m g was s sv p pv bm r w') : Ext [d, m, g] w w' := by
  rcases h with ⟨_, _, h⟩ | ⟨_, _, h, _⟩
  · exact h.nil
  · exact h
theorem keep_res {B x d m g : Nat} {w : World} {k : Dk} {sv pv lv : Value} {was s p : Sv} (h : XWal B w x d m g k was sv p pv lv false) (hf : k.fuse = -1) (u : Value) (hu : RdE w.heap.size w u s.log) (hL : ∀ y ∈ s.log, y.data.size ≤ maxLen) :
    Calls Tryz.prog 12 #[.pointer (some ⟨g, 0, none⟩), .agg #[.int .i64 s.term, .int .i64 s.vote, u]] w fun e w' => ∃ r, e = .returned (.int .i64 r) ∧ KeepRes B w x d m g was s sv p pv (mayB s) r w' := by
  cases hm : mayB s
  · refine (Keep_shape h.wal s u hu hm hL).mono ?_
    rintro e w' ⟨he, hx⟩
    exact ⟨3, he, .inl ⟨rfl, rfl, hx⟩⟩
  · refine (keep_mid h hf u hu hm).mono ?_
    rintro e w' ⟨he, hx, hr⟩
    exact ⟨0, he, .inr ⟨rfl, rfl, hx, hr⟩⟩
/-- Behind the first Keep, whichever way it went: the wal tells what the world holds. -/
def Settled (B : Nat) (w : World) (x : Nat) (w' : World) : Prop := Below B w w' ∧ ∃ k s, XOn B w' x k s ∧ k.fuse = -1
end Go.Proofs.YtipbfmalacnmkaaGreat
