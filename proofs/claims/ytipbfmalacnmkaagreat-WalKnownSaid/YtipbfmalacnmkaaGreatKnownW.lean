/- WalKnown, walked: it returns true. -/
import Derived.Test.YtipbfmalacnmkaaGreatKworld
import Derived.Test.YtipbfmalacnmkaaGreatKnown1
import Derived.Test.YtipbfmalacnmkaaGreatAwake
import Derived.Deep.RegionHeld3
namespace Go.Proofs.YtipbfmalacnmkaaGreat
open Go.RowKit Go.Shelf

theorem mk25k (w : World) : (Instr.makeSlice 25 (.int .i64 4096) (.int .i64 4096)).run Tryz.prog w = .ok (.slice (some ⟨w.heap.size, 0, none⟩) 4096 4096) (w.alloc (.cells (ecs (zl 4096 0)).toArray 29)) := mk25 4096 (Nat.le_refl _) w
theorem mk30k (w : World) : (Instr.makeSlice 30 (.int .i64 65536) (.int .i64 65536)).run Tryz.prog w = .ok (.slice (some ⟨w.heap.size, 0, none⟩) 65536 65536) (w.alloc (.cells (bvs (List.replicate 65536 (0 : UInt8))).toArray 5)) := mk30 65536 (Nat.le_refl _) w
theorem str30k (w : World) : (convert 30 9 (.slice (some ⟨w.heap.size, 0, none⟩) 65536 65536)).run Tryz.prog (w.alloc (.cells (bvs (List.replicate 65536 (0 : UInt8))).toArray 5)) = .ok (.string (zs 65536)) (w.alloc (.cells (bvs (List.replicate 65536 (0 : UInt8))).toArray 5)) := str30 65536 (Nat.le_refl _) w
/-- The entries' block n holds the first i terms; the box behind it holds the rest. -/
structure Filled (n : Nat) (w0 : World) (L : List Ent) (w : World) : Prop where
  ext : Ext [] w0 w
  ents : w.heap[n]? = some (.cells (ecs L).toArray 29 (0, 0))
  box : w.heap[n + 1]? = some (.cells #[.int .i64 1152921504606846976, .int .i64 6, .slice (some ⟨n, 0, none⟩) 4096 4096] 27 (0, 0))
theorem Filled.term {n i : Nat} {w0 w : World} {L : List Ent} (h : Filled n w0 L w) (hn : w0.heap.size ≤ n) (hi : i < L.length) :
    w.cell? ⟨n, i * 2, none⟩ = some (.int .i64 L[i].term) ∧ w.frozen? ⟨n, i * 2, none⟩ = false ∧ ∀ t, Filled n w0 (L.set i ⟨t, L[i].data⟩) (w.setCell ⟨n, i * 2, none⟩ (.int .i64 t)) := by
  refine ⟨?_, frozen_of_row _ _ _ _ _ h.ents, fun t => ⟨h.ext.setCell (p := ⟨n, i * 2, none⟩) (.inr hn) _, ?_, ?_⟩⟩
  · rw [cell_of_row _ _ _ _ _ _ h.ents]
    simpa using (ecs_get L i hi).1
  · have := heap_set (o := i * 2) (.int .i64 t) h.ents
    rw [List.setIfInBounds_toArray, ecs_setTerm L i t hi] at this
    exact this
  · exact (Below.heap_setCell _ ⟨n, i * 2, none⟩ _ _ (by show n + 1 ≠ n; omega)).trans h.box
theorem Filled.data {n i : Nat} {w0 w : World} {L : List Ent} (h : Filled n w0 L w) (hn : w0.heap.size ≤ n) (hi : i < L.length) :
    w.cell? ⟨n, i * 2 + 1, none⟩ = some (.string L[i].data) ∧ w.frozen? ⟨n, i * 2 + 1, none⟩ = false ∧ ∀ t, Filled n w0 (L.set i ⟨L[i].term, t⟩) (w.setCell ⟨n, i * 2 + 1, none⟩ (.string t)) := by
  refine ⟨?_, frozen_of_row _ _ _ _ _ h.ents, fun t => ⟨h.ext.setCell (p := ⟨n, i * 2 + 1, none⟩) (.inr hn) _, ?_, ?_⟩⟩
  · rw [cell_of_row _ _ _ _ _ _ h.ents]
    simpa using (ecs_get L i hi).2
  · have := heap_set (o := i * 2 + 1) (.string t) h.ents
    rw [List.setIfInBounds_toArray, ecs_setData L i t hi] at this
    exact this
  · exact (Below.heap_setCell _ ⟨n, i * 2 + 1, none⟩ _ _ (by show n + 1 ≠ n; omega)).trans h.box
theorem Filled.more {n : Nat} {w0 w w' : World} {L : List Ent} (h : Filled n w0 L w) (hx : Ext [] w w') : Filled n w0 L w' :=
  ⟨h.ext.trans hx, hx.heap h.ents, hx.heap h.box⟩

theorem fullOn_at7 (n m : Nat) (h7 : 7 < (fullOn n m).length) : (fullOn n m)[7] = ⟨8, zs m⟩ := by
  unfold fullOn
  exact List.getElem_set_self _
theorem fullOn_seven {n m : Nat} {L : List Ent} (h : L = fullOn n m) (h7 : 7 < L.length) : L[7] = ⟨8, zs m⟩ := by
  subst h
  exact fullOn_at7 n m h7
theorem rdEnts {w : World} {n : Nat} {L : List Ent} (h : w.heap[n]? = some (.cells (ecs L).toArray 29 (0, 0))) (hl : L.length = 4096) : RdE w.heap.size w (.slice (some ⟨n, 0, none⟩) 4096 4096) L :=
  ⟨some ⟨n, 0, none⟩, 4096, by rw [hl], ecs_length L, by omega, by unfold maxLen; omega, .inr ⟨n, 0, _, _, rfl, (Array.getElem?_eq_some_iff.1 h).1, h, by rw [List.drop_zero, List.take_of_length_le (by simp [ecs_length])]⟩⟩
/-- A box that reads as s. -/
def Boxed (w : World) (b : Nat) (s : Sv) : Prop :=
  ∃ a c, w.heap[b]? = some (.cells #[.int .i64 s.term, .int .i64 s.vote, .slice a s.log.length c] 27 (0, 0)) ∧ RdE w.heap.size w (.slice a s.log.length c) s.log
theorem Boxed.ext {w w' : World} {b : Nat} {s : Sv} (h : Boxed w b s) (hx : Ext [] w w') : Boxed w' b s := by
  obtain ⟨a, c, h1, h2⟩ := h
  exact ⟨a, c, hx.heap h1, RdE.mono (RdE.ext h2 hx) hx.size⟩
theorem OwnE.data {w : World} {base : Nat} {v : Value} {L : List Ent} (h : OwnE w base v L) {i : Nat} (hi : i < L.length) :
    ∃ b cap, v = .slice (some ⟨b, 0, none⟩) L.length cap ∧ base ≤ b ∧ b < w.heap.size ∧ w.cell? ⟨b, i * 2 + 1, none⟩ = some (.string L[i].data) ∧ w.frozen? ⟨b, i * 2 + 1, none⟩ = false ∧
      ∀ t, OwnE (w.setCell ⟨b, i * 2 + 1, none⟩ (.string t)) base v (L.set i ⟨L[i].term, t⟩) := by
  obtain ⟨h1, h2⟩ := h
  rcases h2 with ⟨_, h3⟩ | ⟨g, cap, cur, h3, h4, h5, h6, h7, h8, h9⟩
  · omega
  · have hsz : i * 2 + 1 < cur.toList.length := by
      rw [Array.length_toList, h8]
      have := Nat.mul_le_mul_right 2 h6
      omega
    refine ⟨g, cap, h3, h4, (Array.getElem?_eq_some_iff.1 h5).1, ?_, frozen_of_row _ _ _ _ _ h5, fun t => ⟨?_, .inr ⟨g, cap, _, ?_, h4, heap_set (o := i * 2 + 1) (.string t) h5, ?_, h7, ?_, ?_⟩⟩⟩
    · rw [cell_of_row _ _ _ _ _ _ h5, ← Array.getElem?_toList]
      have := (ecs_get L i hi).2
      rw [← h9, List.getElem?_take, if_pos (by omega)] at this
      exact this
    · rw [ecs_length]
    · rw [List.length_set]; exact h3
    · rw [List.length_set]; exact h6
    · rw [Array.size_setIfInBounds]; exact h8
    · rw [List.length_set, Array.toList_setIfInBounds, ← ecs_setData L i t hi, ← h9, List.take_set]

theorem boxKeep {w : World} {g d sz b : Nat} {T V T' V' : Int} {lv : Value} {down : Bool} {s : Sv} (hw : WalRow w g d T V lv sz down) (h : Boxed w b s) (hs : mayB s = false) (hL : ∀ x ∈ s.log, x.data.size ≤ 65537) (hT : s.term = T') (hV : s.vote = V') :
    ∃ a n c, (∀ W : World, W.heap[b]? = w.heap[b]? → W.cell? ⟨b, 0, none⟩ = some (.int .i64 T') ∧ W.cell? ⟨b, 1, none⟩ = some (.int .i64 V') ∧ W.cell? ⟨b, 2, none⟩ = some (.slice a n c)) ∧ b < w.heap.size ∧
      ∀ W, Ext [] w W → Calls Tryz.prog 12 #[.pointer (some ⟨g, 0, none⟩), .agg #[.int .i64 T', .int .i64 V', .slice a n c]] W fun e w' => e = .returned (.int .i64 3) ∧ Ext [] W w' := by
  subst hT hV
  obtain ⟨a, c, r, rd⟩ := h
  refine ⟨a, s.log.length, c, fun W hx => ?_, (Array.getElem?_eq_some_iff.1 r).1, fun W hx => Keep_shape (hw.ext hx (by simp)) s _ (RdE.mono (RdE.ext rd hx) hx.size) hs (fun x hxm => big_of _ x hxm hL)⟩
  obtain ⟨y0, y1, y2, _, _, _⟩ := rowFacts (hx.trans r)
  exact ⟨y0, y1, y2⟩
theorem rebase {O : Nat → Prop} {w w' : World} {x B : Nat} {k : Dk} {s : Sv} (h : K.XOn O w x k s) (hO : ∀ b, O b → B ≤ b) (hx : Ext [] w w') : K.XOn (fun b => B ≤ b ∧ (b < w.heap.size ∨ w'.heap.size ≤ b)) w' x k s := by
  obtain ⟨d, m, g, sv, p, pv, lv, h⟩ := h
  have h1 := h.xb.row.lt
  have h2 := h.xb.disk.lt
  have h3 := h.xb.disk.ltm
  have h4 := h.wal.lt
  have n := h.nil hx
  exact ⟨d, m, g, sv, p, pv, lv, ⟨n.xb.row, n.xb.disk, n.xb.base, ⟨hO _ h.xb.bx, .inl h1⟩, ⟨hO _ h.xb.bd, .inl h2⟩, ⟨hO _ h.xb.bm, .inl h3⟩, n.xb.rs, n.xb.rp, n.xb.ms, fun b hb => ⟨hO _ (h.xb.bt b (Nat.le_trans hx.size hb)), .inr hb⟩⟩, n.on, ⟨hO _ h.bg, .inl h4⟩, n.wal, n.rl⟩

set_option maxRecDepth 10000 in
set_option maxHeartbeats 4000000 in
theorem known_walk (w : World) : Calls Tryz.prog 3 #[] w fun e w' => e = .returned (.bool true) ∧ Below w.heap.size w w' := by
  have hmk := mk25k
  obtain ⟨Z0, S0, hmb0, hst0, hS0⟩ : ∃ (Z0 : Array Value) (S0 : ByteArray), (∀ w : World, (Instr.makeSlice 30 (.int .i64 65536) (.int .i64 65536)).run Tryz.prog w = .ok (.slice (some ⟨w.heap.size, 0, none⟩) 65536 65536) (w.alloc (.cells Z0 5))) ∧ (∀ w : World, (convert 30 9 (.slice (some ⟨w.heap.size, 0, none⟩) 65536 65536)).run Tryz.prog (w.alloc (.cells Z0 5)) = .ok (.string S0) (w.alloc (.cells Z0 5))) ∧ S0 = zs 65536 := ⟨_, _, mk30k, str30k, rfl⟩
  have HMB := Lib.hid hmb0
  have HST := Lib.hid hst0
  have HS0 := Lib.hid hS0
  clear hmb0 hst0 hS0
  go_enter Tryz.func3, Tryz.ntmps3
  go_wp2_with fail
  refine (begin_calls w).mono ?_
  rintro e w2 ⟨x, k, rfl, hon, hfu, b2⟩
  have HON := Lib.hid hon
  have HFU := Lib.hid hfu
  clear hon hfu
  go_upto_region 6 with fail
  obtain ⟨W3, hW3⟩ : ∃ W3, W3 = (w2.alloc (.cells (ecs (zl 4096 0)).toArray 29)).alloc (.cells #[.int .i64 1152921504606846976, .int .i64 6, .slice (some ⟨w2.heap.size, 0, none⟩) 4096 4096] 27) := ⟨_, rfl⟩
  have F3 : Filled w2.heap.size w2 (zl 4096 0) W3 := by
    rw [hW3]
    refine ⟨((Ext.refl [] w2).alloc _).alloc _, heap_push (heap_alloc_new w2 _) _, ?_⟩
    have := heap_alloc_new (w2.alloc (.cells (ecs (zl 4096 0)).toArray 29)) (.cells #[.int .i64 1152921504606846976, .int .i64 6, .slice (some ⟨w2.heap.size, 0, none⟩) 4096 4096] 27)
    rw [World.size_alloc] at this
    exact this
  have HF3 := Lib.hid F3
  rw [← hW3]
  clear hW3 F3 hmk
  go_wp2_with fail
  go_loopw [4] (fun s4 wr => ∃ i : Nat, i ≤ 4096 ∧ s4 = .int .i64 i ∧ Hid (Filled w2.heap.size w2 (zl 4096 i) wr)) (fun s4 _ => (4096 - intOf s4).toNat)
  case atStart => exact ⟨0, by omega, rfl, HF3⟩
  case round =>
    obtain ⟨i, hi, rfl, hh⟩ := hrel
    obtain ⟨wo, rfl⟩ : ∃ wo : World, wo = wr := ⟨_, rfl⟩
    obtain ⟨y0, y1, y2, y3, y4, y5⟩ := rowFacts hh.out.box
    by_cases hi2 : i < 4096
    · obtain ⟨c1, f1, hset⟩ := hh.out.term (Nat.le_refl _) (i := i) (by rw [zl_len]; exact hi2)
      have hset2 := hset (1 + (i : Int))
      rw [zl_get, zl_step] at hset2
      have HSET := Lib.hid hset2
      have hi0 : (0 : Int) ≤ (i : Int) := by omega
      have hi1 : (i : Int) < 4096 := by omega
      clear hset hset2
      go_wp2_with fail
      go_roundw
      case rel => exact ⟨i + 1, by omega, by go_num, HSET⟩
      case measure => simp [intOf]; omega
    · obtain rfl : i = 4096 := by omega
      have hmb := HMB.out
      have hst := HST.out
      have hstd := HST.out wo.drew
      change (convert 30 9 (.slice (some ⟨wo.heap.size, 0, none⟩) 65536 65536)).run Tryz.prog (wo.alloc (.cells Z0 5)).drew = .ok (.string S0) (wo.alloc (.cells Z0 5)).drew at hstd
      obtain ⟨c1, f1, _⟩ := hh.out.data (Nat.le_refl _) (i := 7) (by rw [zl_len]; omega)
      rw [zl_get] at c1
      change wo.cell? ⟨w2.heap.size, 15, none⟩ = some (.string ⟨#[]⟩) at c1
      change wo.frozen? ⟨w2.heap.size, 15, none⟩ = false at f1
      have X4 : Ext [] wo (wo.drew.alloc (.cells Z0 5)) := (Ext.refl [] wo).drew.alloc _
      have F4 := hh.out.more X4
      obtain ⟨_, _, y2a, _, _, _⟩ := rowFacts F4.box
      obtain ⟨c1a, f1a, hset⟩ := F4.data (Nat.le_refl _) (i := 7) (by rw [zl_len]; omega)
      have hset2 := hset S0
      rw [zl_get] at c1a hset2
      have hfo : (zl 4096 4096).set 7 ⟨8, S0⟩ = fullOn 4096 65536 := by rw [HS0.out]; rfl
      change Filled w2.heap.size w2 ((zl 4096 4096).set 7 ⟨8, S0⟩) ((wo.drew.alloc (.cells Z0 5)).setCell ⟨w2.heap.size, 15, none⟩ (.string S0)) at hset2
      change (wo.alloc (.cells Z0 5)).cell? ⟨w2.heap.size, 15, none⟩ = some (.string ⟨#[]⟩) at c1a
      change (wo.alloc (.cells Z0 5)).frozen? ⟨w2.heap.size, 15, none⟩ = false at f1a
      rw [hfo] at hset2
      change (wo.alloc (.cells Z0 5)).cell? _ = _ at y2a
      have HSET := Lib.hid hset2
      clear hset hset2 X4 F4 hfo
      go_upto_region 9 with fail
      go_cut [] (fun wc => Hid (Filled w2.heap.size w2 (fullOn 4096 65536) wc))
      case first =>
        go_region
        all_goals
          go_wp2_with fail
          go_meet
          exact HSET
      case rest =>
        obtain ⟨w5, rfl⟩ : ∃ w5 : World, w5 = wc := ⟨_, rfl⟩
        clear y0 y1 y2 y3 y4 y5 hmb hst hstd c1 f1 y2a c1a f1a HSET hh
        obtain ⟨L, hL⟩ : ∃ L, L = fullOn 4096 65536 := ⟨_, rfl⟩
        rw [← hL] at hcut
        have hl : L.length = 4096 := by rw [hL]; exact fullOn_len _ _
        have HL := Lib.hid hL
        have HLL := Lib.hid hl
        have F5 := hcut.out
        have hent5 := F5.ents
        have rd5 := rdEnts F5.ents hl
        have hbox5 := F5.box
        have hb5 := (Array.getElem?_eq_some_iff.1 F5.box).1
        have hn5 := (Array.getElem?_eq_some_iff.1 F5.ents).1
        obtain ⟨O, hO⟩ : ∃ O : Nat → Prop, O = fun b => w.heap.size ≤ b ∧ (b < w2.heap.size ∨ w5.heap.size ≤ b) := ⟨_, rfl⟩
        have hon5 : K.XOn O w5 x k Sv.zero := by rw [hO]; exact K.ofPlain HON.out (Nat.le_refl _) F5.ext (Nat.le_refl _)
        have hO1 : ∀ b, b < w.heap.size → ¬ O b := by rw [hO]; rintro b hb ⟨h1, _⟩; omega
        have hO3 : ∀ b, O b → w.heap.size ≤ b := by rw [hO]; rintro b ⟨h1, _⟩; exact h1
        have HO3 := Lib.hid hO3
        have hO2 : ∀ b, w2.heap.size ≤ b → b < w5.heap.size → ¬ O b := by rw [hO]; rintro b h1 h2 ⟨_, h3⟩; omega
        have hkp : Calls Tryz.prog 8 #[.pointer (some ⟨x, 0, none⟩), .agg #[.int .i64 1152921504606846976, .int .i64 6, .slice (some ⟨w2.heap.size, 0, none⟩) 4096 4096]] w5 fun e w' => K.WKeep O w5 x k Sv.zero ⟨1152921504606846976, 6, L⟩ e w' :=
          K.wkeep_on (s := ⟨1152921504606846976, 6, L⟩) hon5 _ rd5 (by rw [hL]; exact fullV_may 4096 65536 (Nat.le_refl _) (Nat.le_refl _))
        have HKP := Lib.hid hkp
        have HO1 := Lib.hid hO1
        have HB25 := Lib.hid (b2.trans (F5.ext.below b2.size (by simp)))
        have H57 : ∀ W, K.Kept O w5 W → W.heap[w2.heap.size + 1]? = some (.cells #[.int .i64 1152921504606846976, .int .i64 6, .slice (some ⟨w2.heap.size, 0, none⟩) 4096 4096] 27 (0, 0)) ∧ RdE W.heap.size W (.slice (some ⟨w2.heap.size, 0, none⟩) 4096 4096) L := fun W hk =>
          ⟨(hk.block _ hb5 (hO2 _ (by omega) hb5)).trans hbox5, rdEnts ((hk.block _ hn5 (hO2 _ (by omega) hn5)).trans hent5) HLL.out⟩
        have H57h := Lib.hid H57
        obtain ⟨y0, y1, y2, _, _, _⟩ := rowFacts hbox5
        clear H57 hO1 hO2 hO3 hO hkp hon5 rd5 hent5 hbox5 hb5 hn5 F5 hL hl
        go_wp2_with fail
        refine HKP.out.mono ?_
        rintro e w6 ⟨rfl, kp6, hor⟩
        rcases hor with ⟨k6, hon6, hf6⟩ | ⟨_, hne⟩
        · obtain ⟨d6, m6, g6, sv6, p6, pv6, lv6, hw6⟩ := id hon6
          have c6 := hw6.xb.row.facts.c1
          obtain ⟨q6, hr6⟩ := hon6.ready
          have HOP := Lib.hid (K.wopen_calls hr6)
          have HF6 := Lib.hid hf6
          clear hw6 hon6 hr6 hf6 y0 y1 y2
          go_wp2_with fail
          refine HOP.out.mono ?_
          rintro e w7 ⟨rfl, kp7, hor⟩
          rcases hor with ⟨k7, s7, hon7, htold, hf7⟩ | ⟨_, hne⟩
          · rcases htold with rfl | ⟨hf, _⟩
            · have KP := kp6.trans kp7
              obtain ⟨box7, rd7⟩ := H57h.out w7 KP
              have HCP : Hid (∀ W, Ext [] w7 W → Calls Tryz.prog 10 #[.agg #[.int .i64 1152921504606846976, .int .i64 6, .slice (some ⟨w2.heap.size, 0, none⟩) 4096 4096]] W fun e w' => ∃ v', e = .returned (.agg #[.int .i64 1152921504606846976, .int .i64 6, v']) ∧ OwnE w' W.heap.size v' L ∧ Below W.heap.size W w') := Lib.hid fun W hx =>
                Copy_calls 1152921504606846976 6 (.slice (some ⟨w2.heap.size, 0, none⟩) 4096 4096) L (by rw [HLL.out]; omega) W (RdE.mono (RdE.ext rd7 hx) hx.size)
              have HBX : Hid (∀ W, Ext [] w7 W → W.cell? ⟨w2.heap.size + 1, 0, none⟩ = some (.int .i64 1152921504606846976) ∧ W.cell? ⟨w2.heap.size + 1, 1, none⟩ = some (.int .i64 6) ∧ W.cell? ⟨w2.heap.size + 1, 2, none⟩ = some (.slice (some ⟨w2.heap.size, 0, none⟩) 4096 4096)) := Lib.hid fun W hx => by
                obtain ⟨y0, y1, y2, _, _, _⟩ := rowFacts (hx.heap box7)
                exact ⟨y0, y1, y2⟩
              have HKEP := Lib.hid KP
              have HON7 := Lib.hid hon7
              obtain ⟨y0, y1, y2⟩ := HBX.out w7 (Ext.refl _ _)
              clear hon7 hf7 kp6 kp7 KP box7 rd7 c6 HKP HOP HF3
              go_wp2_with fail
              refine (HCP.out w7 (Ext.refl _ _)).mono ?_
              rintro e w8 ⟨v8, rfl, o8, b8⟩
              obtain ⟨a8, cap8, rfl, _, _⟩ := o8.rd.shape
              obtain ⟨W9, hW9⟩ : ∃ W9, W9 = w8.alloc (.cells #[.int .i64 1152921504606846976, .int .i64 6, .slice a8 L.length cap8] 27) := ⟨_, rfl⟩
              have X89 : Ext [] w8 W9 := by rw [hW9]; exact (Ext.refl [] w8).alloc _
              have r9 : W9.heap[w8.heap.size]? = some (.cells #[.int .i64 1152921504606846976, .int .i64 6, .slice a8 L.length cap8] 27 (0, 0)) := by rw [hW9]; exact heap_alloc_new w8 _
              have o9 := o8.ext X89
              have X79 : Ext [] w7 W9 := (Ext.of_below b8).trans X89
              have hs78 := b8.size
              have hs89 := X89.size
              have hlt8 := fun q => o8.lt q
              go_upto_region 13 with fail
              rw [← hW9]
              clear hW9 y0 y1 y2 o8 b8 X89
              obtain ⟨y0, y1, y2, y3, y4, y5⟩ := rowFacts r9
              go_cut [5] (fun s5 wc => ∃ b, s5 = .pointer (some ⟨b, 0, none⟩) ∧ Hid ((Ext [] w7 wc ∧ w7.heap.size ≤ b) ∧ Boxed wc b ⟨1152921504606846976, 6, L ++ [⟨1, ⟨#[]⟩⟩]⟩))
              case first =>
                have hent := Src.ent1 W9 (⟨1, ⟨#[]⟩⟩ : Ent) 1 ⟨#[]⟩ rfl rfl
                have o10 := o9.alloc (.cells #[.int .i64 1, .string ⟨#[]⟩] 29)
                have r10 := heap_push r9 (.cells #[.int .i64 1, .string ⟨#[]⟩] 29)
                have hl2 : L.length + 1 ≤ 1099511627776 := by rw [HLL.out]; omega
                go_wp2_with (at_builtin; refine wpList_appE _ rfl _ _ rfl w7.heap.size _ L rfl o10 _ [⟨1, ⟨#[]⟩⟩] rfl hent (by simp only [List.length_cons, List.length_nil]; omega) (by simp only [World.size_alloc]; omega) ?_
                             intro v11 w11 o11 hg11
                             have r11 := (hg11.block w8.heap.size (by simp only [World.size_alloc]; omega) (fun e => by have := hlt8 _ e.symm; omega)).trans r10
                             obtain ⟨z0, z1, z2, z3, z4, z5⟩ := rowFacts r11
                             have HG := Lib.hid hg11
                             have HO := Lib.hid o11
                             obtain ⟨a11, cap11, rfl, _, _⟩ := o11.rd.shape
                             clear hg11 o11
                             obtain ⟨N11, hN11⟩ : ∃ N, N = (L ++ [(⟨1, ⟨#[]⟩⟩ : Ent)]).length := ⟨_, rfl⟩
                             have HN := Lib.hid hN11
                             rw [← hN11] at HO ⊢
                             clear hN11)
                go_meet
                have hN := HN.out
                subst hN
                exact ⟨_, rfl, Lib.hid ⟨⟨((X79.alloc _).grown HG.out (fun k hk => .inr (hlt8 k hk).1)).setCell (p := ⟨w8.heap.size, 2, none⟩) (.inr hs78) _, hs78⟩, a11, cap11, heap_set (o := 2) _ r11, RdE.mono (RdE.setOther HO.out.rd r11 (by decide)) (by rw [World.size_setCell]; exact Nat.le_refl _)⟩⟩
              case rest =>
                obtain ⟨w12, rfl⟩ : ∃ w12 : World, w12 = wc := ⟨_, rfl⟩
                obtain ⟨b5, rfl, hh5⟩ := hcut
                clear y0 y1 y2 y3 y4 y5 r9 o9 X79 hs78 hs89 hlt8
                obtain ⟨y0, y1, y2⟩ := HBX.out w12 hh5.out.1.1
                go_wp2_with fail
                refine (HCP.out w12 hh5.out.1.1).mono ?_
                rintro e w13 ⟨v13, rfl, o13, b13⟩
                have h7L : 7 < L.length := by rw [HLL.out]; omega
                obtain ⟨bb, cap, rfl, hbb, hbb2, c15, f15, hset⟩ := o13.data h7L
                obtain ⟨W14, hW14⟩ : ∃ W14, W14 = w13.alloc (.cells #[.int .i64 1152921504606846976, .int .i64 6, .slice (some ⟨bb, 0, none⟩) L.length cap] 27) := ⟨_, rfl⟩
                have X1314 : Ext [] w13 W14 := by rw [hW14]; exact (Ext.refl [] w13).alloc _
                have r14 : W14.heap[w13.heap.size]? = some (.cells #[.int .i64 1152921504606846976, .int .i64 6, .slice (some ⟨bb, 0, none⟩) L.length cap] 27 (0, 0)) := by rw [hW14]; exact heap_alloc_new w13 _
                have o14 := o13.ext X1314
                have X1214 : Ext [] w12 W14 := (Ext.of_below b13).trans X1314
                have hs1213 := b13.size
                obtain ⟨bb', cap', e, _, _, c15, f15, hset⟩ := o14.data h7L
                cases e
                obtain ⟨D, hD⟩ : ∃ D, D = L[7].data := ⟨_, rfl⟩
                have hDs : D.size ≤ 65536 := by rw [hD, fullOn_seven HL.out h7L, zs_size]; exact Nat.le_refl _
                rw [← hD] at c15
                have hset2 := hset (D ++ ⟨#[120]⟩)
                change W14.cell? ⟨bb, 15, none⟩ = some (.string D) at c15
                change W14.frozen? ⟨bb, 15, none⟩ = false at f15
                change OwnE (W14.setCell ⟨bb, 15, none⟩ (.string (D ++ ⟨#[120]⟩))) _ _ _ at hset2
                have HSET := Lib.hid hset2
                have HD := Lib.hid hD
                have h7i : (7 : Int) < (L.length : Int) := by omega
                go_upto_region 15 with fail
                rw [← hW14]
                clear hW14 y0 y1 y2 hset hset2 o13 b13 X1314 hD o14
                obtain ⟨y0, y1, y2, y3, y4, y5⟩ := rowFacts r14
                go_cut [6] (fun s6 wc => ∃ b, s6 = .pointer (some ⟨b, 0, none⟩) ∧ Hid ((Ext [] w12 wc ∧ w12.heap.size ≤ b) ∧ Boxed wc b ⟨1152921504606846976, 6, L.set 7 ⟨L[7].term, D ++ ⟨#[120]⟩⟩⟩))
                case first =>
                  go_region
                  all_goals
                    go_wp2_with fail
                    go_meet
                    refine ⟨_, rfl, Lib.hid ⟨⟨(X1214.drew).setCell (p := ⟨bb, 15, none⟩) (.inr hbb) _, hs1213⟩, some ⟨bb, 0, none⟩, cap, ?_, ?_⟩⟩
                    · show _ = some (Obj.cells #[_, _, .slice _ (L.set 7 _).length _] 27 (0, 0))
                      rw [List.length_set]
                      exact (Below.heap_setCell W14.drew ⟨bb, 15, none⟩ _ _ (by show w13.heap.size ≠ bb; omega)).trans r14
                    · show RdE _ _ (.slice _ (L.set 7 _).length _) _
                      rw [List.length_set]
                      exact HSET.out.rd
                case rest =>
                  obtain ⟨w15, rfl⟩ : ∃ w15 : World, w15 = wc := ⟨_, rfl⟩
                  obtain ⟨b6, rfl, hh6⟩ := hcut
                  clear y0 y1 y2 y3 y4 y5 r14 X1214 hs1213 c15 f15 HSET
                  have hx15 := hh5.out.1.1.trans hh6.out.1.1
                  have hh5b := Lib.hid (hh5.out.2.ext hh6.out.1.1)
                  obtain ⟨y0, y1, y2⟩ := HBX.out w15 hx15
                  go_wp2_with fail
                  refine (HCP.out w15 hx15).mono ?_
                  rintro e w16 ⟨v16, rfl, o16, b16⟩
                  obtain ⟨a16, cap16, rfl, _, _⟩ := o16.rd.shape
                  obtain ⟨W17, hW17⟩ : ∃ W17, W17 = w16.alloc (.cells #[.int .i64 1152921504606846976, .int .i64 6, .slice a16 L.length cap16] 27) := ⟨_, rfl⟩
                  have X1617 : Ext [] w16 W17 := by rw [hW17]; exact (Ext.refl [] w16).alloc _
                  have r17 : W17.heap[w16.heap.size]? = some (.cells #[.int .i64 1152921504606846976, .int .i64 6, .slice a16 L.length cap16] 27 (0, 0)) := by rw [hW17]; exact heap_alloc_new w16 _
                  have o17 := o16.ext X1617
                  have X1517 : Ext [] w15 W17 := (Ext.of_below b16).trans X1617
                  have hs1516 := b16.size
                  go_upto_region 17 with fail
                  rw [← hW17]
                  clear hW17 y0 y1 y2 o16 b16 X1617
                  obtain ⟨y0, y1, y2, y3, y4, y5⟩ := rowFacts r17
                  go_cut [7] (fun s7 wc => ∃ b, s7 = .pointer (some ⟨b, 0, none⟩) ∧ Hid ((Ext [] w15 wc ∧ w15.heap.size ≤ b) ∧ Boxed wc b ⟨1152921504606846977, 6, L⟩))
                  case first =>
                    go_wp2_with fail
                    go_meet
                    exact ⟨_, rfl, Lib.hid ⟨⟨X1517.setCell (p := ⟨w16.heap.size, 0, none⟩) (.inr hs1516) _, hs1516⟩, a16, cap16, heap_set (o := 0) _ r17, RdE.mono (RdE.setOther o17.rd r17 (by decide)) (by rw [World.size_setCell]; exact Nat.le_refl _)⟩⟩
                  case rest =>
                    obtain ⟨w18, rfl⟩ : ∃ w18 : World, w18 = wc := ⟨_, rfl⟩
                    obtain ⟨b7, rfl, hh7⟩ := hcut
                    clear y0 y1 y2 y3 y4 y5 r17 X1517 hs1516 o17
                    have hx18 := hx15.trans hh7.out.1.1
                    have hh5c := Lib.hid (hh5b.out.ext hh7.out.1.1)
                    have hh6c := Lib.hid (hh6.out.2.ext hh7.out.1.1)
                    obtain ⟨y0, y1, y2⟩ := HBX.out w18 hx18
                    go_wp2_with fail
                    refine (HCP.out w18 hx18).mono ?_
                    rintro e w19 ⟨v19, rfl, o19, b19⟩
                    obtain ⟨a19, cap19, rfl, _, _⟩ := o19.rd.shape
                    obtain ⟨W20, hW20⟩ : ∃ W20, W20 = w19.alloc (.cells #[.int .i64 1152921504606846976, .int .i64 6, .slice a19 L.length cap19] 27) := ⟨_, rfl⟩
                    have X1920 : Ext [] w19 W20 := by rw [hW20]; exact (Ext.refl [] w19).alloc _
                    have r20 : W20.heap[w19.heap.size]? = some (.cells #[.int .i64 1152921504606846976, .int .i64 6, .slice a19 L.length cap19] 27 (0, 0)) := by rw [hW20]; exact heap_alloc_new w19 _
                    have o20 := o19.ext X1920
                    have X1820 : Ext [] w18 W20 := (Ext.of_below b19).trans X1920
                    have hs1819 := b19.size
                    go_upto_region 19 with fail
                    rw [← hW20]
                    clear hW20 y0 y1 y2 o19 b19 X1920
                    obtain ⟨y0, y1, y2, y3, y4, y5⟩ := rowFacts r20
                    go_cut [8] (fun s8 wc => ∃ b, s8 = .pointer (some ⟨b, 0, none⟩) ∧ Hid ((Ext [] w18 wc ∧ w18.heap.size ≤ b) ∧ Boxed wc b ⟨1152921504606846976, 7, L⟩))
                    case first =>
                      go_wp2_with fail
                      go_meet
                      exact ⟨_, rfl, Lib.hid ⟨⟨X1820.setCell (p := ⟨w19.heap.size, 1, none⟩) (.inr hs1819) _, hs1819⟩, a19, cap19, heap_set (o := 1) _ r20, RdE.mono (RdE.setOther o20.rd r20 (by decide)) (by rw [World.size_setCell]; exact Nat.le_refl _)⟩⟩
                    case rest =>
                      obtain ⟨w21, rfl⟩ : ∃ w21 : World, w21 = wc := ⟨_, rfl⟩
                      obtain ⟨b8, rfl, hh8⟩ := hcut
                      clear y0 y1 y2 y3 y4 y5 r20 X1820 hs1819 o20
                      have hx21 := hx18.trans hh8.out.1.1
                      have hh5d := hh5c.out.ext hh8.out.1.1
                      have hh6d := hh6c.out.ext hh8.out.1.1
                      have hh7d := hh7.out.2.ext hh8.out.1.1
                      have hh8d := hh8.out.2
                      have hon21 := HON7.out.nil hx21
                      have h7L : 7 < L.length := by rw [HLL.out]; omega
                      have hD6 : (⟨L[7].term, D ++ ⟨#[120]⟩⟩ : Ent) = ⟨8, zs 65536 ++ ⟨#[120]⟩⟩ := by rw [HD.out, fullOn_seven HL.out h7L]
                      rw [hD6, HL.out] at hh6d
                      rw [HL.out] at hh5d hh7d hh8d
                      obtain ⟨d9, m9, g9, sv9, p9, pv9, lv9, hw9⟩ := id hon21
                      obtain ⟨a5, n5, c5, hk5⟩ := boxKeep (T' := 1152921504606846976) (V' := 6) hw9.wal hh5d (moreV_not 4096 65536 rfl) (moreV_data 4096 65536 (Nat.le_refl _)) rfl rfl
                      obtain ⟨a6, n6, c6, hk6⟩ := boxKeep (T' := 1152921504606846976) (V' := 6) hw9.wal hh6d (deepV_not 4096 65536 (by omega) rfl) (deepV_data 4096 65536 (Nat.le_refl _)) rfl rfl
                      obtain ⟨a7, n7, c7, hk7⟩ := boxKeep (T' := 1152921504606846977) (V' := 6) hw9.wal hh7d (highV_not 4096 65536) (fullOn_data 4096 65536 (Nat.le_refl _)) rfl rfl
                      obtain ⟨a8, n8, c8, hk8⟩ := boxKeep (T' := 1152921504606846976) (V' := 7) hw9.wal hh8d (votedV_not 4096 65536) (fullOn_data 4096 65536 (Nat.le_refl _)) rfl rfl
                      have HX1 : Hid (∀ W, Ext [] w21 W → W.cell? ⟨x, 1, none⟩ = some (.pointer (some ⟨g9, 0, none⟩))) := Lib.hid fun W hx => (hw9.nil hx).xb.row.facts.c1
                      have hsz21 : w.heap.size ≤ w21.heap.size := Nat.le_trans (Nat.le_trans HB25.out.size HKEP.out.size) hx21.size
                      obtain ⟨k5c, k5l, k5k⟩ := hk5
                      obtain ⟨k6c, k6l, k6k⟩ := hk6
                      obtain ⟨k7c, k7l, k7k⟩ := hk7
                      obtain ⟨k8c, k8l, k8k⟩ := hk8
                      have g5 : w7.heap.size ≤ b5 := hh5.out.1.2
                      have g6 : w7.heap.size ≤ b6 := Nat.le_trans hh5.out.1.1.size hh6.out.1.2
                      have g7 : w7.heap.size ≤ b7 := Nat.le_trans hx15.size hh7.out.1.2
                      have g8 : w7.heap.size ≤ b8 := Nat.le_trans hx18.size hh8.out.1.2
                      have HSS : Hid (∀ W : World, (∀ b, w7.heap.size ≤ b → b < w21.heap.size → W.heap[b]? = w21.heap[b]?) →
                          (W.cell? ⟨b5, 0, none⟩ = some (.int .i64 1152921504606846976) ∧ W.cell? ⟨b5, 1, none⟩ = some (.int .i64 6) ∧ W.cell? ⟨b5, 2, none⟩ = some (.slice a5 n5 c5)) ∧
                          (W.cell? ⟨b6, 0, none⟩ = some (.int .i64 1152921504606846976) ∧ W.cell? ⟨b6, 1, none⟩ = some (.int .i64 6) ∧ W.cell? ⟨b6, 2, none⟩ = some (.slice a6 n6 c6)) ∧
                          (W.cell? ⟨b7, 0, none⟩ = some (.int .i64 1152921504606846977) ∧ W.cell? ⟨b7, 1, none⟩ = some (.int .i64 6) ∧ W.cell? ⟨b7, 2, none⟩ = some (.slice a7 n7 c7)) ∧
                          (W.cell? ⟨b8, 0, none⟩ = some (.int .i64 1152921504606846976) ∧ W.cell? ⟨b8, 1, none⟩ = some (.int .i64 7) ∧ W.cell? ⟨b8, 2, none⟩ = some (.slice a8 n8 c8))) :=
                        Lib.hid fun W hW => ⟨k5c W (hW _ g5 k5l), k6c W (hW _ g6 k6l), k7c W (hW _ g7 k7l), k8c W (hW _ g8 k8l)⟩
                      have HEX : Hid (∀ W : World, Ext [] w21 W → ∀ b, w7.heap.size ≤ b → b < w21.heap.size → W.heap[b]? = w21.heap[b]?) := Lib.hid fun W hx b _ hb => hx.block b hb (by simp)
                      have HOPN : Hid (∀ W, Ext [] w21 W → Calls Tryz.prog 9 #[.pointer (some ⟨x, 0, none⟩)] W fun e w' => e = .returned (.bool true) ∧ Below w.heap.size W w' ∧ ∀ b, w7.heap.size ≤ b → b < w21.heap.size → w'.heap[b]? = w21.heap[b]?) := Lib.hid fun W hx => by
                        obtain ⟨q, hr⟩ := ((rebase HON7.out HO3.out hx21).nil hx).ready
                        refine (K.wopen_calls hr).mono fun e w' ⟨h1, h2, _⟩ => ⟨h1, h2.below (Nat.le_trans hsz21 hx.size) (fun b hb h => absurd h.1 (by omega)), fun b hb1 hb2 => (h2.block b (Nat.lt_of_lt_of_le hb2 hx.size) (fun h => by have := h.2; omega)).trans (hx.block b hb2 (by simp))⟩
                      have HK5 := Lib.hid k5k
                      have HK6 := Lib.hid k6k
                      have HK7 := Lib.hid k7k
                      have HK8 := Lib.hid k8k
                      have HB21 : Hid (Below w.heap.size w w21) := Lib.hid ((HB25.out.trans (HKEP.out.below HB25.out.size HO1.out)).trans (hx21.below (Nat.le_trans HB25.out.size HKEP.out.size) (by simp)))
                      have XD : Ext [] w21 w21.drew := (Ext.refl [] w21).drew
                      clear k5c k6c k7c k8c k5l k6l k7l k8l k5k k6k k7k k8k g5 g6 g7 g8 hh5d hh6d hh7d hh8d hon21 hw9 hh5 hh6 hh7 hh8 hh5b hh5c hh6c hD6 HD HL HLL HCP HBX hx15 hx18
                      go_upto_region 20 with fail
                      refine wp_region_noPanic ?_
                      refine wp_region_held_drew (S := (fun W =>
                          (W.cell? ⟨b5, 0, none⟩ = some (.int .i64 1152921504606846976) ∧ W.cell? ⟨b5, 1, none⟩ = some (.int .i64 6) ∧ W.cell? ⟨b5, 2, none⟩ = some (.slice a5 n5 c5)) ∧
                          (W.cell? ⟨b6, 0, none⟩ = some (.int .i64 1152921504606846976) ∧ W.cell? ⟨b6, 1, none⟩ = some (.int .i64 6) ∧ W.cell? ⟨b6, 2, none⟩ = some (.slice a6 n6 c6)) ∧
                          (W.cell? ⟨b7, 0, none⟩ = some (.int .i64 1152921504606846977) ∧ W.cell? ⟨b7, 1, none⟩ = some (.int .i64 6) ∧ W.cell? ⟨b7, 2, none⟩ = some (.slice a7 n7 c7)) ∧
                          (W.cell? ⟨b8, 0, none⟩ = some (.int .i64 1152921504606846976) ∧ W.cell? ⟨b8, 1, none⟩ = some (.int .i64 7) ∧ W.cell? ⟨b8, 2, none⟩ = some (.slice a8 n8 c8)))) (by kernel_rfl) (HSS.out _ (HEX.out _ XD)) (fun hHeld => ?_)
                      refine wpAnyH_ready (rs := [0]) (by kernel_rfl) (by simp) ?_
                      refine AllReadyH.cons (o := ?zo0) ?zh0 (fun K hK => ?zs0) AllReadyH.nil
                      case zh0 => simp only [List.getElem?_toArray, List.getElem?_cons_zero]; rfl
                      go_simp
                      refine (awake_calls _).mono ?_
                      rintro e wA ⟨rfl, bA⟩
                      have xA : Ext [] w21 wA := (Ext.refl [] w21).drew.trans (Ext.of_below bA)
                      have q3 := HX1.out wA xA
                      go_wp2_with fail
                      refine hK.out _ _ (HSS.out _ (HEX.out _ xA)) (fun hHeld => ?_)
                      clear hK K
                      try simp only [Act.put, List.setIfInBounds_toArray, List.set_cons_zero, List.set_cons_succ]
                      refine wpAnyH_take (i := 1) (oi := ?zo1) (v := ?zv1) ?zi1 (by kernel_rfl) (by kernel_rfl) (by kernel_rfl) (fun _ _ _ h => h) (Or.inl ⟨?zw1, ?zy1⟩) (by assumption) ?zr1
                      case zi1 => simp only [List.getElem?_toArray, List.getElem?_cons_succ, List.getElem?_cons_zero]; rfl
                      case zw1 => rfl
                      case zy1 => intro w hSw; (try dsimp only at hSw); first | (go_simp; done) | (go_simp; with_reducible rfl)
                      try simp only [Act.put, List.setIfInBounds_toArray, List.set_cons_zero, List.set_cons_succ]
                      refine wpAnyH_take (i := 2) (oi := ?zo2) (v := ?zv2) ?zi2 (by kernel_rfl) (by kernel_rfl) (by kernel_rfl) (fun _ _ _ h => h) (Or.inl ⟨?zw2, ?zy2⟩) (by assumption) ?zr2
                      case zi2 => simp only [List.getElem?_toArray, List.getElem?_cons_succ, List.getElem?_cons_zero]; rfl
                      case zw2 => rfl
                      case zy2 => intro w hSw; (try dsimp only at hSw); first | (go_simp; done) | (go_simp; with_reducible rfl)
                      try simp only [Act.put, List.setIfInBounds_toArray, List.set_cons_zero, List.set_cons_succ]
                      refine wpAnyH_take (i := 3) (oi := ?zo3) (v := ?zv3) ?zi3 (by kernel_rfl) (by kernel_rfl) (by kernel_rfl) (fun _ _ _ h => h) (Or.inl ⟨?zw3, ?zy3⟩) (by assumption) ?zr3
                      case zi3 => simp only [List.getElem?_toArray, List.getElem?_cons_succ, List.getElem?_cons_zero]; rfl
                      case zw3 => rfl
                      case zy3 => intro w hSw; (try dsimp only at hSw); first | (go_simp; done) | (go_simp; with_reducible rfl)
                      try simp only [Act.put, List.setIfInBounds_toArray, List.set_cons_zero, List.set_cons_succ]
                      refine wpAnyH_take (i := 4) (oi := ?zo4) (v := ?zv4) ?zi4 (by kernel_rfl) (by kernel_rfl) (by kernel_rfl) (fun _ _ _ h => h) (Or.inl ⟨?zw4, ?zy4⟩) (by assumption) ?zr4
                      case zi4 => simp only [List.getElem?_toArray, List.getElem?_cons_succ, List.getElem?_cons_zero]; rfl
                      case zw4 => rfl
                      case zy4 => intro w hSw; (try dsimp only at hSw); first | (go_simp; done) | (go_simp; with_reducible rfl)
                      try simp only [Act.put, List.setIfInBounds_toArray, List.set_cons_zero, List.set_cons_succ]
                      refine wpAnyH_take (i := 6) (oi := ?zo6) (v := ?zv6) ?zi6 (by kernel_rfl) (by kernel_rfl) (by kernel_rfl) (fun _ _ _ h => h) (Or.inl ⟨?zw6, ?zy6⟩) (by assumption) ?zr6
                      case zi6 => simp only [List.getElem?_toArray, List.getElem?_cons_succ, List.getElem?_cons_zero]; rfl
                      case zw6 => rfl
                      case zy6 => intro w hSw; (try dsimp only at hSw); first | (go_simp; done) | (go_simp; with_reducible rfl)
                      try simp only [Act.put, List.setIfInBounds_toArray, List.set_cons_zero, List.set_cons_succ]
                      refine wpAnyH_ready (rs := [5]) (by kernel_rfl) (by simp) ?_
                      refine AllReadyH.cons (o := ?zo5) ?zh5 (fun K hK => ?zs5) AllReadyH.nil
                      case zh5 => simp only [List.getElem?_toArray, List.getElem?_cons_succ, List.getElem?_cons_zero]; rfl
                      go_simp
                      refine hK.out _ _ (HSS.out _ (HEX.out _ xA)) (fun hHeld => ?_)
                      clear hK K
                      try simp only [Act.put, List.setIfInBounds_toArray, List.set_cons_zero, List.set_cons_succ]
                      refine wpAnyH_ready (rs := [7]) (by kernel_rfl) (by simp) ?_
                      refine AllReadyH.cons (o := ?zo7) ?zh7 (fun K hK => ?zs7) AllReadyH.nil
                      case zh7 => simp only [List.getElem?_toArray, List.getElem?_cons_succ, List.getElem?_cons_zero]; rfl
                      go_simp
                      refine (HK5.out _ xA).mono ?_
                      rintro e wB ⟨rfl, xB'⟩
                      have xB : Ext [] w21 wB := xA.trans xB'
                      have q3 := HX1.out wB xB
                      go_wp2_with fail
                      refine hK.out _ _ (HSS.out _ (HEX.out _ xB)) (fun hHeld => ?_)
                      clear hK K
                      try simp only [Act.put, List.setIfInBounds_toArray, List.set_cons_zero, List.set_cons_succ]
                      refine wpAnyH_take (i := 8) (oi := ?zo8) (v := ?zv8) ?zi8 (by kernel_rfl) (by kernel_rfl) (by kernel_rfl) (fun _ _ _ h => h) (Or.inl ⟨?zw8, ?zy8⟩) (by assumption) ?zr8
                      case zi8 => simp only [List.getElem?_toArray, List.getElem?_cons_succ, List.getElem?_cons_zero]; rfl
                      case zw8 => rfl
                      case zy8 => intro w hSw; (try dsimp only at hSw); first | (go_simp; done) | (go_simp; with_reducible rfl)
                      try simp only [Act.put, List.setIfInBounds_toArray, List.set_cons_zero, List.set_cons_succ]
                      refine wpAnyH_take (i := 9) (oi := ?zo9) (v := ?zv9) ?zi9 (by kernel_rfl) (by kernel_rfl) (by kernel_rfl) (fun _ _ _ h => h) (Or.inl ⟨?zw9, ?zy9⟩) (by assumption) ?zr9
                      case zi9 => simp only [List.getElem?_toArray, List.getElem?_cons_succ, List.getElem?_cons_zero]; rfl
                      case zw9 => rfl
                      case zy9 => intro w hSw; (try dsimp only at hSw); first | (go_simp; done) | (go_simp; with_reducible rfl)
                      try simp only [Act.put, List.setIfInBounds_toArray, List.set_cons_zero, List.set_cons_succ]
                      refine wpAnyH_take (i := 10) (oi := ?zo10) (v := ?zv10) ?zi10 (by kernel_rfl) (by kernel_rfl) (by kernel_rfl) (fun _ _ _ h => h) (Or.inl ⟨?zw10, ?zy10⟩) (by assumption) ?zr10
                      case zi10 => simp only [List.getElem?_toArray, List.getElem?_cons_succ, List.getElem?_cons_zero]; rfl
                      case zw10 => rfl
                      case zy10 => intro w hSw; (try dsimp only at hSw); first | (go_simp; done) | (go_simp; with_reducible rfl)
                      try simp only [Act.put, List.setIfInBounds_toArray, List.set_cons_zero, List.set_cons_succ]
                      refine wpAnyH_take (i := 11) (oi := ?zo11) (v := ?zv11) ?zi11 (by kernel_rfl) (by kernel_rfl) (by kernel_rfl) (fun _ _ _ h => h) (Or.inl ⟨?zw11, ?zy11⟩) (by assumption) ?zr11
                      case zi11 => simp only [List.getElem?_toArray, List.getElem?_cons_succ, List.getElem?_cons_zero]; rfl
                      case zw11 => rfl
                      case zy11 => intro w hSw; (try dsimp only at hSw); first | (go_simp; done) | (go_simp; with_reducible rfl)
                      try simp only [Act.put, List.setIfInBounds_toArray, List.set_cons_zero, List.set_cons_succ]
                      refine wpAnyH_take (i := 12) (oi := ?zo12) (v := ?zv12) ?zi12 (by kernel_rfl) (by kernel_rfl) (by kernel_rfl) (fun _ _ _ h => h) (Or.inl ⟨?zw12, ?zy12⟩) (by assumption) ?zr12
                      case zi12 => simp only [List.getElem?_toArray, List.getElem?_cons_succ, List.getElem?_cons_zero]; rfl
                      case zw12 => rfl
                      case zy12 => intro w hSw; (try dsimp only at hSw); first | (go_simp; done) | (go_simp; with_reducible rfl)
                      try simp only [Act.put, List.setIfInBounds_toArray, List.set_cons_zero, List.set_cons_succ]
                      refine wpAnyH_take (i := 13) (oi := ?zo13) (v := ?zv13) ?zi13 (by kernel_rfl) (by kernel_rfl) (by kernel_rfl) (fun _ _ _ h => h) (Or.inl ⟨?zw13, ?zy13⟩) (by assumption) ?zr13
                      case zi13 => simp only [List.getElem?_toArray, List.getElem?_cons_succ, List.getElem?_cons_zero]; rfl
                      case zw13 => rfl
                      case zy13 => intro w hSw; (try dsimp only at hSw); first | (go_simp; done) | (go_simp; with_reducible rfl)
                      try simp only [Act.put, List.setIfInBounds_toArray, List.set_cons_zero, List.set_cons_succ]
                      refine wpAnyH_take (i := 15) (oi := ?zo15) (v := ?zv15) ?zi15 (by kernel_rfl) (by kernel_rfl) (by kernel_rfl) (fun _ _ _ h => h) (Or.inl ⟨?zw15, ?zy15⟩) (by assumption) ?zr15
                      case zi15 => simp only [List.getElem?_toArray, List.getElem?_cons_succ, List.getElem?_cons_zero]; rfl
                      case zw15 => rfl
                      case zy15 => intro w hSw; (try dsimp only at hSw); first | (go_simp; done) | (go_simp; with_reducible rfl)
                      try simp only [Act.put, List.setIfInBounds_toArray, List.set_cons_zero, List.set_cons_succ]
                      refine wpAnyH_ready (rs := [14]) (by kernel_rfl) (by simp) ?_
                      refine AllReadyH.cons (o := ?zo14) ?zh14 (fun K hK => ?zs14) AllReadyH.nil
                      case zh14 => simp only [List.getElem?_toArray, List.getElem?_cons_succ, List.getElem?_cons_zero]; rfl
                      go_simp
                      refine hK.out _ _ (HSS.out _ (HEX.out _ xB)) (fun hHeld => ?_)
                      clear hK K
                      try simp only [Act.put, List.setIfInBounds_toArray, List.set_cons_zero, List.set_cons_succ]
                      refine wpAnyH_ready (rs := [16]) (by kernel_rfl) (by simp) ?_
                      refine AllReadyH.cons (o := ?zo16) ?zh16 (fun K hK => ?zs16) AllReadyH.nil
                      case zh16 => simp only [List.getElem?_toArray, List.getElem?_cons_succ, List.getElem?_cons_zero]; rfl
                      go_simp
                      refine (HK6.out _ xB).mono ?_
                      rintro e wC ⟨rfl, xC'⟩
                      have xC : Ext [] w21 wC := xB.trans xC'
                      have q3 := HX1.out wC xC
                      go_wp2_with fail
                      refine hK.out _ _ (HSS.out _ (HEX.out _ xC)) (fun hHeld => ?_)
                      clear hK K
                      try simp only [Act.put, List.setIfInBounds_toArray, List.set_cons_zero, List.set_cons_succ]
                      refine wpAnyH_take (i := 17) (oi := ?zo17) (v := ?zv17) ?zi17 (by kernel_rfl) (by kernel_rfl) (by kernel_rfl) (fun _ _ _ h => h) (Or.inl ⟨?zw17, ?zy17⟩) (by assumption) ?zr17
                      case zi17 => simp only [List.getElem?_toArray, List.getElem?_cons_succ, List.getElem?_cons_zero]; rfl
                      case zw17 => rfl
                      case zy17 => intro w hSw; (try dsimp only at hSw); first | (go_simp; done) | (go_simp; with_reducible rfl)
                      try simp only [Act.put, List.setIfInBounds_toArray, List.set_cons_zero, List.set_cons_succ]
                      refine wpAnyH_take (i := 18) (oi := ?zo18) (v := ?zv18) ?zi18 (by kernel_rfl) (by kernel_rfl) (by kernel_rfl) (fun _ _ _ h => h) (Or.inl ⟨?zw18, ?zy18⟩) (by assumption) ?zr18
                      case zi18 => simp only [List.getElem?_toArray, List.getElem?_cons_succ, List.getElem?_cons_zero]; rfl
                      case zw18 => rfl
                      case zy18 => intro w hSw; (try dsimp only at hSw); first | (go_simp; done) | (go_simp; with_reducible rfl)
                      try simp only [Act.put, List.setIfInBounds_toArray, List.set_cons_zero, List.set_cons_succ]
                      refine wpAnyH_take (i := 19) (oi := ?zo19) (v := ?zv19) ?zi19 (by kernel_rfl) (by kernel_rfl) (by kernel_rfl) (fun _ _ _ h => h) (Or.inl ⟨?zw19, ?zy19⟩) (by assumption) ?zr19
                      case zi19 => simp only [List.getElem?_toArray, List.getElem?_cons_succ, List.getElem?_cons_zero]; rfl
                      case zw19 => rfl
                      case zy19 => intro w hSw; (try dsimp only at hSw); first | (go_simp; done) | (go_simp; with_reducible rfl)
                      try simp only [Act.put, List.setIfInBounds_toArray, List.set_cons_zero, List.set_cons_succ]
                      refine wpAnyH_take (i := 20) (oi := ?zo20) (v := ?zv20) ?zi20 (by kernel_rfl) (by kernel_rfl) (by kernel_rfl) (fun _ _ _ h => h) (Or.inl ⟨?zw20, ?zy20⟩) (by assumption) ?zr20
                      case zi20 => simp only [List.getElem?_toArray, List.getElem?_cons_succ, List.getElem?_cons_zero]; rfl
                      case zw20 => rfl
                      case zy20 => intro w hSw; (try dsimp only at hSw); first | (go_simp; done) | (go_simp; with_reducible rfl)
                      try simp only [Act.put, List.setIfInBounds_toArray, List.set_cons_zero, List.set_cons_succ]
                      refine wpAnyH_take (i := 21) (oi := ?zo21) (v := ?zv21) ?zi21 (by kernel_rfl) (by kernel_rfl) (by kernel_rfl) (fun _ _ _ h => h) (Or.inl ⟨?zw21, ?zy21⟩) (by assumption) ?zr21
                      case zi21 => simp only [List.getElem?_toArray, List.getElem?_cons_succ, List.getElem?_cons_zero]; rfl
                      case zw21 => rfl
                      case zy21 => intro w hSw; (try dsimp only at hSw); first | (go_simp; done) | (go_simp; with_reducible rfl)
                      try simp only [Act.put, List.setIfInBounds_toArray, List.set_cons_zero, List.set_cons_succ]
                      refine wpAnyH_take (i := 22) (oi := ?zo22) (v := ?zv22) ?zi22 (by kernel_rfl) (by kernel_rfl) (by kernel_rfl) (fun _ _ _ h => h) (Or.inl ⟨?zw22, ?zy22⟩) (by assumption) ?zr22
                      case zi22 => simp only [List.getElem?_toArray, List.getElem?_cons_succ, List.getElem?_cons_zero]; rfl
                      case zw22 => rfl
                      case zy22 => intro w hSw; (try dsimp only at hSw); first | (go_simp; done) | (go_simp; with_reducible rfl)
                      try simp only [Act.put, List.setIfInBounds_toArray, List.set_cons_zero, List.set_cons_succ]
                      refine wpAnyH_take (i := 24) (oi := ?zo24) (v := ?zv24) ?zi24 (by kernel_rfl) (by kernel_rfl) (by kernel_rfl) (fun _ _ _ h => h) (Or.inl ⟨?zw24, ?zy24⟩) (by assumption) ?zr24
                      case zi24 => simp only [List.getElem?_toArray, List.getElem?_cons_succ, List.getElem?_cons_zero]; rfl
                      case zw24 => rfl
                      case zy24 => intro w hSw; (try dsimp only at hSw); first | (go_simp; done) | (go_simp; with_reducible rfl)
                      try simp only [Act.put, List.setIfInBounds_toArray, List.set_cons_zero, List.set_cons_succ]
                      refine wpAnyH_ready (rs := [23]) (by kernel_rfl) (by simp) ?_
                      refine AllReadyH.cons (o := ?zo23) ?zh23 (fun K hK => ?zs23) AllReadyH.nil
                      case zh23 => simp only [List.getElem?_toArray, List.getElem?_cons_succ, List.getElem?_cons_zero]; rfl
                      go_simp
                      refine hK.out _ _ (HSS.out _ (HEX.out _ xC)) (fun hHeld => ?_)
                      clear hK K
                      try simp only [Act.put, List.setIfInBounds_toArray, List.set_cons_zero, List.set_cons_succ]
                      refine wpAnyH_ready (rs := [25]) (by kernel_rfl) (by simp) ?_
                      refine AllReadyH.cons (o := ?zo25) ?zh25 (fun K hK => ?zs25) AllReadyH.nil
                      case zh25 => simp only [List.getElem?_toArray, List.getElem?_cons_succ, List.getElem?_cons_zero]; rfl
                      go_simp
                      refine (HK7.out _ xC).mono ?_
                      rintro e wD ⟨rfl, xD'⟩
                      have xD : Ext [] w21 wD := xC.trans xD'
                      have q3 := HX1.out wD xD
                      go_wp2_with fail
                      refine hK.out _ _ (HSS.out _ (HEX.out _ xD)) (fun hHeld => ?_)
                      clear hK K
                      try simp only [Act.put, List.setIfInBounds_toArray, List.set_cons_zero, List.set_cons_succ]
                      refine wpAnyH_take (i := 26) (oi := ?zo26) (v := ?zv26) ?zi26 (by kernel_rfl) (by kernel_rfl) (by kernel_rfl) (fun _ _ _ h => h) (Or.inl ⟨?zw26, ?zy26⟩) (by assumption) ?zr26
                      case zi26 => simp only [List.getElem?_toArray, List.getElem?_cons_succ, List.getElem?_cons_zero]; rfl
                      case zw26 => rfl
                      case zy26 => intro w hSw; (try dsimp only at hSw); first | (go_simp; done) | (go_simp; with_reducible rfl)
                      try simp only [Act.put, List.setIfInBounds_toArray, List.set_cons_zero, List.set_cons_succ]
                      refine wpAnyH_take (i := 27) (oi := ?zo27) (v := ?zv27) ?zi27 (by kernel_rfl) (by kernel_rfl) (by kernel_rfl) (fun _ _ _ h => h) (Or.inl ⟨?zw27, ?zy27⟩) (by assumption) ?zr27
                      case zi27 => simp only [List.getElem?_toArray, List.getElem?_cons_succ, List.getElem?_cons_zero]; rfl
                      case zw27 => rfl
                      case zy27 => intro w hSw; (try dsimp only at hSw); first | (go_simp; done) | (go_simp; with_reducible rfl)
                      try simp only [Act.put, List.setIfInBounds_toArray, List.set_cons_zero, List.set_cons_succ]
                      refine wpAnyH_take (i := 28) (oi := ?zo28) (v := ?zv28) ?zi28 (by kernel_rfl) (by kernel_rfl) (by kernel_rfl) (fun _ _ _ h => h) (Or.inl ⟨?zw28, ?zy28⟩) (by assumption) ?zr28
                      case zi28 => simp only [List.getElem?_toArray, List.getElem?_cons_succ, List.getElem?_cons_zero]; rfl
                      case zw28 => rfl
                      case zy28 => intro w hSw; (try dsimp only at hSw); first | (go_simp; done) | (go_simp; with_reducible rfl)
                      try simp only [Act.put, List.setIfInBounds_toArray, List.set_cons_zero, List.set_cons_succ]
                      refine wpAnyH_take (i := 29) (oi := ?zo29) (v := ?zv29) ?zi29 (by kernel_rfl) (by kernel_rfl) (by kernel_rfl) (fun _ _ _ h => h) (Or.inl ⟨?zw29, ?zy29⟩) (by assumption) ?zr29
                      case zi29 => simp only [List.getElem?_toArray, List.getElem?_cons_succ, List.getElem?_cons_zero]; rfl
                      case zw29 => rfl
                      case zy29 => intro w hSw; (try dsimp only at hSw); first | (go_simp; done) | (go_simp; with_reducible rfl)
                      try simp only [Act.put, List.setIfInBounds_toArray, List.set_cons_zero, List.set_cons_succ]
                      refine wpAnyH_take (i := 30) (oi := ?zo30) (v := ?zv30) ?zi30 (by kernel_rfl) (by kernel_rfl) (by kernel_rfl) (fun _ _ _ h => h) (Or.inl ⟨?zw30, ?zy30⟩) (by assumption) ?zr30
                      case zi30 => simp only [List.getElem?_toArray, List.getElem?_cons_succ, List.getElem?_cons_zero]; rfl
                      case zw30 => rfl
                      case zy30 => intro w hSw; (try dsimp only at hSw); first | (go_simp; done) | (go_simp; with_reducible rfl)
                      try simp only [Act.put, List.setIfInBounds_toArray, List.set_cons_zero, List.set_cons_succ]
                      refine wpAnyH_take (i := 31) (oi := ?zo31) (v := ?zv31) ?zi31 (by kernel_rfl) (by kernel_rfl) (by kernel_rfl) (fun _ _ _ h => h) (Or.inl ⟨?zw31, ?zy31⟩) (by assumption) ?zr31
                      case zi31 => simp only [List.getElem?_toArray, List.getElem?_cons_succ, List.getElem?_cons_zero]; rfl
                      case zw31 => rfl
                      case zy31 => intro w hSw; (try dsimp only at hSw); first | (go_simp; done) | (go_simp; with_reducible rfl)
                      try simp only [Act.put, List.setIfInBounds_toArray, List.set_cons_zero, List.set_cons_succ]
                      refine wpAnyH_take (i := 33) (oi := ?zo33) (v := ?zv33) ?zi33 (by kernel_rfl) (by kernel_rfl) (by kernel_rfl) (fun _ _ _ h => h) (Or.inl ⟨?zw33, ?zy33⟩) (by assumption) ?zr33
                      case zi33 => simp only [List.getElem?_toArray, List.getElem?_cons_succ, List.getElem?_cons_zero]; rfl
                      case zw33 => rfl
                      case zy33 => intro w hSw; (try dsimp only at hSw); first | (go_simp; done) | (go_simp; with_reducible rfl)
                      try simp only [Act.put, List.setIfInBounds_toArray, List.set_cons_zero, List.set_cons_succ]
                      refine wpAnyH_ready (rs := [32]) (by kernel_rfl) (by simp) ?_
                      refine AllReadyH.cons (o := ?zo32) ?zh32 (fun K hK => ?zs32) AllReadyH.nil
                      case zh32 => simp only [List.getElem?_toArray, List.getElem?_cons_succ, List.getElem?_cons_zero]; rfl
                      go_simp
                      refine hK.out _ _ (HSS.out _ (HEX.out _ xD)) (fun hHeld => ?_)
                      clear hK K
                      try simp only [Act.put, List.setIfInBounds_toArray, List.set_cons_zero, List.set_cons_succ]
                      refine wpAnyH_ready (rs := [34]) (by kernel_rfl) (by simp) ?_
                      refine AllReadyH.cons (o := ?zo34) ?zh34 (fun K hK => ?zs34) AllReadyH.nil
                      case zh34 => simp only [List.getElem?_toArray, List.getElem?_cons_succ, List.getElem?_cons_zero]; rfl
                      go_simp
                      refine (HK8.out _ xD).mono ?_
                      rintro e wE ⟨rfl, xE'⟩
                      have xE : Ext [] w21 wE := xD.trans xE'
                      have q3 := HX1.out wE xE
                      go_wp2_with fail
                      refine hK.out _ _ (HSS.out _ (HEX.out _ xE)) (fun hHeld => ?_)
                      clear hK K
                      try simp only [Act.put, List.setIfInBounds_toArray, List.set_cons_zero, List.set_cons_succ]
                      refine wpAnyH_take (i := 35) (oi := ?zo35) (v := ?zv35) ?zi35 (by kernel_rfl) (by kernel_rfl) (by kernel_rfl) (fun _ _ _ h => h) (Or.inl ⟨?zw35, ?zy35⟩) (by assumption) ?zr35
                      case zi35 => simp only [List.getElem?_toArray, List.getElem?_cons_succ, List.getElem?_cons_zero]; rfl
                      case zw35 => rfl
                      case zy35 => intro w hSw; (try dsimp only at hSw); first | (go_simp; done) | (go_simp; with_reducible rfl)
                      try simp only [Act.put, List.setIfInBounds_toArray, List.set_cons_zero, List.set_cons_succ]
                      refine wpAnyH_take (i := 36) (oi := ?zo36) (v := ?zv36) ?zi36 (by kernel_rfl) (by kernel_rfl) (by kernel_rfl) (fun _ _ _ h => h) (Or.inl ⟨?zw36, ?zy36⟩) (by assumption) ?zr36
                      case zi36 => simp only [List.getElem?_toArray, List.getElem?_cons_succ, List.getElem?_cons_zero]; rfl
                      case zw36 => rfl
                      case zy36 => intro w hSw; (try dsimp only at hSw); first | (go_simp; done) | (go_simp; with_reducible rfl)
                      try simp only [Act.put, List.setIfInBounds_toArray, List.set_cons_zero, List.set_cons_succ]
                      refine wpAnyH_take (i := 37) (oi := ?zo37) (v := ?zv37) ?zi37 (by kernel_rfl) (by kernel_rfl) (by kernel_rfl) (fun _ _ _ h => h) (Or.inl ⟨?zw37, ?zy37⟩) (by assumption) ?zr37
                      case zi37 => simp only [List.getElem?_toArray, List.getElem?_cons_succ, List.getElem?_cons_zero]; rfl
                      case zw37 => rfl
                      case zy37 => intro w hSw; (try dsimp only at hSw); first | (go_simp; done) | (go_simp; with_reducible rfl)
                      try simp only [Act.put, List.setIfInBounds_toArray, List.set_cons_zero, List.set_cons_succ]
                      refine wpAnyH_take (i := 38) (oi := ?zo38) (v := ?zv38) ?zi38 (by kernel_rfl) (by kernel_rfl) (by kernel_rfl) (fun _ _ _ h => h) (Or.inl ⟨?zw38, ?zy38⟩) (by assumption) ?zr38
                      case zi38 => simp only [List.getElem?_toArray, List.getElem?_cons_succ, List.getElem?_cons_zero]; rfl
                      case zw38 => rfl
                      case zy38 => intro w hSw; (try dsimp only at hSw); first | (go_simp; done) | (go_simp; with_reducible rfl)
                      try simp only [Act.put, List.setIfInBounds_toArray, List.set_cons_zero, List.set_cons_succ]
                      refine wpAnyH_ready (rs := [39]) (by kernel_rfl) (by simp) ?_
                      refine AllReadyH.cons (o := ?zo39) ?zh39 (fun K hK => ?zs39) AllReadyH.nil
                      case zh39 => simp only [List.getElem?_toArray, List.getElem?_cons_succ, List.getElem?_cons_zero]; rfl
                      go_simp
                      refine (HOPN.out _ xE).mono ?_
                      rintro e wF ⟨rfl, bF, hF⟩
                      go_wp2_with fail
                      refine hK.out _ _ (HSS.out _ hF) (fun hHeld => ?_)
                      clear hK K
                      try simp only [Act.put, List.setIfInBounds_toArray, List.set_cons_zero, List.set_cons_succ]
                      refine wpAnyH_take (i := 40) (oi := ?zo40) (v := ?zv40) ?zi40 (by kernel_rfl) (by kernel_rfl) (by kernel_rfl) (fun _ _ _ h => h) (Or.inl ⟨?zw40, ?zy40⟩) (by assumption) ?zr40
                      case zi40 => simp only [List.getElem?_toArray, List.getElem?_cons_succ, List.getElem?_cons_zero]; rfl
                      case zw40 => rfl
                      case zy40 => intro w hSw; (try dsimp only at hSw); first | (go_simp; done) | (go_simp; with_reducible rfl)
                      try simp only [Act.put, List.setIfInBounds_toArray, List.set_cons_zero, List.set_cons_succ]
                      refine wpAnyH_take (i := 41) (oi := ?zo41) (v := ?zv41) ?zi41 (by kernel_rfl) (by kernel_rfl) (by kernel_rfl) (fun _ _ _ h => h) (Or.inl ⟨?zw41, ?zy41⟩) (by assumption) ?zr41
                      case zi41 => simp only [List.getElem?_toArray, List.getElem?_cons_succ, List.getElem?_cons_zero]; rfl
                      case zw41 => rfl
                      case zy41 => intro w hSw; (try dsimp only at hSw); first | (go_simp; done) | (go_simp; with_reducible rfl)
                      try simp only [Act.put, List.setIfInBounds_toArray, List.set_cons_zero]
                      refine wpAnyH_done (by kernel_rfl) ?_ _
                      refine NoPanic.normal ?_
                      go_wp2_with fail
                      go_ret
                      exact ⟨rfl, (HB21.out.trans (xE.below hsz21 (by simp))).trans bF⟩
            · cases hf
          · exact absurd (HF6.out HFU.out) hne
        · exact absurd HFU.out hne
end Go.Proofs.YtipbfmalacnmkaaGreat
