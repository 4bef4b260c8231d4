/- What tidy says: true, where the disk goes and the wal that is open tells what is sure. -/
import Derived.Test.YtipbfmalacnmkaaGreatWorld
import Derived.Deep.RegionHeld3
import Derived.Deep.CutBlock
namespace Go.Proofs.YtipbfmalacnmkaaGreat
open Go.RowKit Go.Shelf

theorem weightL_le (L : List Ent) (h : ∀ x ∈ L, entOk x = true) : weightL L ≤ L.length * 65568 := by
  induction L with
  | nil => simp [weightL]
  | cons x L ih =>
    have h1 := ih (fun y hy => h y (List.mem_cons_of_mem _ hy))
    have h2 := (entOk_parts (h x (List.mem_cons_self ..))).2.2
    simp only [weightL, List.length_cons]
    omega
theorem may_weight {s : Sv} (h : mayB s = true) : weightL s.log ≤ 268566528 := by
  obtain ⟨_, _, _, _, p5, p6⟩ := may_parts h
  have := weightL_le s.log (fun x hx => List.all_eq_true.1 p6 x hx)
  omega
/-- How many bytes of the wal's file are counted behind j names. -/
def counted (N : List Nm) (F : Nat) (j : Nat) : Nat := if Nm.wal ∈ N.take j then F else 0
theorem counted_le (N : List Nm) (F j : Nat) : counted N F j ≤ F := by unfold counted; split <;> omega
theorem counted_zero (N : List Nm) (F : Nat) : counted N F 0 = 0 := by simp [counted]
theorem counted_other {N : List Nm} {F j : Nat} (h : j < N.length) (hx : N[j] = .other) : counted N F (j + 1) = counted N F j := by
  unfold counted
  rw [take_snoc h, hx]
  simp
theorem counted_wal {N : List Nm} {F j : Nat} (hn : N.Nodup) (h : j < N.length) (hx : N[j] = .wal) : counted N F (j + 1) = F ∧ counted N F j = 0 := by
  have := notin_take hn h
  rw [hx] at this
  unfold counted
  rw [take_snoc h, hx]
  simp [this]
theorem len_other : (⟨#[111, 116, 104, 101, 114]⟩ : ByteArray).size = 5 := rfl
theorem len_wal : (⟨#[119, 97, 108]⟩ : ByteArray).size = 3 := rfl
theorem cut_other (W : World) : (Instr.slice 9 (.string ⟨#[111, 116, 104, 101, 114]⟩) none (some (.int .i64 3)) none).run Tryz.prog W = .ok (.string ⟨#[111, 116, 104]⟩) W := by kernel_rfl
theorem cut_wal (W : World) : (Instr.slice 9 (.string ⟨#[119, 97, 108]⟩) none (some (.int .i64 3)) none).run Tryz.prog W = .ok (.string ⟨#[119, 97, 108]⟩) W := by kernel_rfl
theorem eq_other (W : World) : (binOp .eql 9 (.string ⟨#[111, 116, 104]⟩) (.string ⟨#[119, 97, 108]⟩)).run Tryz.prog W = .ok (.bool false) W := by kernel_rfl
theorem eq_wal (W : World) : (binOp .eql 9 (.string ⟨#[119, 97, 108]⟩) (.string ⟨#[119, 97, 108]⟩)).run Tryz.prog W = .ok (.bool true) W := by kernel_rfl
theorem ne_other (W : World) : (binOp .neq 9 (.string ⟨#[111, 116, 104, 101, 114]⟩) (.string ⟨#[111, 116, 104, 101, 114]⟩)).run Tryz.prog W = .ok (.bool false) W := by kernel_rfl
theorem eq_left (W : World) : (binOp .eql 9 (.string ⟨#[108, 101, 102, 116, 32, 97, 108, 111, 110, 101]⟩) (.string ⟨#[108, 101, 102, 116, 32, 97, 108, 111, 110, 101]⟩)).run Tryz.prog W = .ok (.bool true) W := by kernel_rfl

theorem lt_of_cell {w : World} {b o : Nat} {v : Value} (h : w.cell? ⟨b, o, none⟩ = some v) : b < w.heap.size := by
  obtain ⟨ob, ho, _⟩ := cells_of_cell h
  exact (Array.getElem?_eq_some_iff.1 ho).1
set_option maxRecDepth 10000 in
set_option maxHeartbeats 4000000 in
theorem tidy_calls {B x d m g : Nat} {w : World} {k : Dk} {sv pv lv : Value} {s p : Sv} {sm : Bool} (h : XWal B w x d m g k s sv p pv lv sm) :
    Calls Tryz.prog 14 #[.pointer (some ⟨x, 0, none⟩)] w fun e w' => e = .returned (.bool true) ∧ Ext [] w w' := by
  obtain ⟨asv, csv, rfl, _, _⟩ := h.xb.rs.shape
  have hd := h.xb.disk
  have hrow := h.xb.row
  have c0 := hrow.facts.c0
  have hof := Off_calls hd
  rw [h.on.on] at hof
  have hnames := Names_calls hd h.on.on
  have HOF := Lib.hid hof
  have HNA := Lib.hid hnames
  have H := Lib.hid h
  have lx := hrow.lt
  clear hof hnames
  have q1 := cut_other
  have q2 := cut_wal
  have q3 := eq_other
  have q4 := eq_wal
  have q5 := ne_other
  go_enter Tryz.func14, Tryz.ntmps14
  go_wp2_with (first
    | (go_at_call 27; refine HOF.out.mono ?_; rintro e w1 ⟨rfl, rfl⟩)
    | (go_at_call 35; refine HNA.out.mono ?_; rintro e w2 ⟨v2, rfl, hn2, x2⟩; obtain ⟨a2, c2, rfl, _, _⟩ := hn2.shape))
  have hNn := namesOf_nodup k.fs
  have hNl := namesOf_le k.fs
  have hmem : ∀ y, y ∈ namesOf k.fs → (y = .other ∧ k.errAt .other = 0) ∨ (y = .wal ∧ k.errAt .wal = 0) := fun y hy => by
    have hs := mem_namesOf.1 hy
    cases y
    · refine .inl ⟨rfl, ?_⟩
      unfold Dk.errAt
      rw [H.out.on.on, hs]
      rfl
    · refine .inr ⟨rfl, ?_⟩
      unfold Dk.errAt
      rw [H.out.on.on, hs]
      rfl
    · rw [H.out.on.new] at hs; cases hs
  generalize namesOf k.fs = N at *
  have HMEM := Lib.hid hmem
  have hF : (k.get .wal).b.length ≤ 1146884696 := H.out.on.good.len
  have hsm := H.out.on.good.small
  have hwt := may_weight H.out.xb.ms
  have HLAST := Lib.hid H.out.on.last
  generalize hFL : (k.get .wal).b.length = F at *
  have HFL := Lib.hid hFL
  clear hmem hFL
  go_loopw [5, 6] (fun s5 s6 wr => ∃ j : Nat, j ≤ N.length ∧ s6 = .int .i64 j ∧ s5 = .int .i64 (counted N F j : Nat) ∧ Hid (Ext [] w2 wr)) (fun _ s6 _ => (N.length - intOf s6).toNat)
  case atStart => exact ⟨0, by omega, rfl, by rw [counted_zero]; rfl, Lib.hid (Ext.refl _ _)⟩
  case round =>
    obtain ⟨j, hj, rfl, rfl, hxo⟩ := hrel
    obtain ⟨wo, rfl⟩ : ∃ wo : World, wo = wr := ⟨_, rfl⟩
    have X2 : Ext [] w wo := x2.trans hxo.out
    have HX2 := Lib.hid X2
    have d0 : wo.cell? ⟨x, 0, none⟩ = some (.pointer (some ⟨d, 0, none⟩)) := (X2.cellAt lx (by simp)).trans c0
    have hcl := counted_le N F j
    have hn9 : Rd w2.heap.size wo 9 1 (.slice a2 N.length c2) N.length (N.map Nm.str) := Rd.ext hn2 hxo.out
    have HXO := Lib.hid hxo.out
    clear X2 hxo
    by_cases hj2 : j < N.length
    · obtain ⟨b9, off9, rfl, _, _, hcell⟩ := Rd.cell hn9 (by omega)
      have hc9 := hcell j (by omega)
      rw [List.getElem?_map, List.getElem?_eq_getElem hj2, Option.map_some] at hc9
      have hlb : b9 < wo.heap.size := lt_of_cell hc9
      clear hcell
      have hj0 : (0 : Int) ≤ (j : Int) := by omega
      have hj1 : (j : Int) < (N.length : Int) := by omega
      rcases HMEM.out N[j] (List.getElem_mem hj2) with ⟨hx, _⟩ | ⟨hx, hez⟩
      · rw [hx] at hc9
        change wo.cell? _ = some (Value.string ⟨#[111, 116, 104, 101, 114]⟩) at hc9
        have hco : counted N F (j + 1) = counted N F j := counted_other hj2 hx
        have HCO := Lib.hid hco
        clear hco hx
        go_wp2_with fail
        go_roundw
        case rel => exact ⟨j + 1, by omega, by go_num, by rw [HCO.out], HXO⟩
        case measure => simp [intOf]; omega
      · rw [hx] at hc9
        change wo.cell? _ = some (Value.string ⟨#[119, 97, 108]⟩) at hc9
        obtain ⟨hco, hcz⟩ := counted_wal (F := F) hNn hj2 hx
        have HCO := Lib.hid hco
        have HCZ := Lib.hid hcz
        clear hco hcz hx
        have hFl : ((k.get .wal).b.length : Nat) ≤ 1099511627776 := by rw [HFL.out]; omega
        have hD := H.out.xb.disk.nil HX2.out
        have hrd := Read_disk_calls (hD.nil ((Ext.refl [] wo).drewN 1)) .wal hFl
        change Calls Tryz.prog 36 #[.pointer (some ⟨d, 0, none⟩), .string ⟨#[119, 97, 108]⟩] wo.drew _ at hrd
        have HD := Lib.hid hD
        have hev : ∀ v W, RdB W.heap.size W v (if (0 : Int) = 0 then (k.get .wal).b else []) → ∃ a c, v = .slice a F c := fun v W hv => by
          rw [if_pos rfl] at hv
          obtain ⟨a, c, hv', _, _⟩ := hv.shape
          exact ⟨a, c, by rw [← HFL.out]; exact hv'⟩
        have HEV := Lib.hid hev
        rw [hez] at hrd
        have HRD := Lib.hid hrd
        clear hrd hD hFl hez hev
        go_upto_region 11 with fail
        go_cut [7, 8] (fun s7 s8 wc => ∃ a7 c7, s7 = .slice a7 F c7 ∧ s8 = .int .i64 0 ∧ Ext [] wo wc)
        case first =>
          go_region_with ((go_at_call 36; refine HRD.out.mono ?_; rintro e w6 ⟨v6, rfl, hv6, x6⟩; obtain ⟨a6, c6, rfl⟩ := HEV.out v6 w6 hv6))
          all_goals
            go_wp2_with fail
            go_meet
            exact ⟨a6, c6, rfl, rfl, ((Ext.refl [] wo).drewN 1).trans x6⟩
        case rest =>
          obtain ⟨w7, rfl⟩ : ∃ w7 : World, w7 = wc := ⟨_, rfl⟩
          obtain ⟨a7, c7, rfl, rfl, x7⟩ := hcut
          have e0 : w7.cell? ⟨x, 0, none⟩ = some (.pointer (some ⟨d, 0, none⟩)) := (x7.cellAt (lt_of_cell d0) (by simp)).trans d0
          have e9 : w7.cell? ⟨b9, off9 + j, none⟩ = some (.string ⟨#[119, 97, 108]⟩) := (x7.cellAt hlb (by simp)).trans hc9
          have hwa := Waits_calls (HD.out.nil (x7.drewN 1)) .wal (by rw [HFL.out]; omega) (by rw [HLAST.out, HFL.out]; exact Nat.le_refl _)
          rw [HLAST.out, HFL.out, Nat.sub_self] at hwa
          change Calls Tryz.prog 37 #[.pointer (some ⟨d, 0, none⟩), .string ⟨#[119, 97, 108]⟩] w7.drew _ at hwa
          have HWA := Lib.hid hwa
          clear hwa
          go_upto_region 12 with fail
          go_cut [81] (fun s81 wc => s81 = .bool false ∧ Ext [] wo wc)
          case first =>
            have k0 := fun W (hx : Ext [] w7 W) => (hx.cellAt (lt_of_cell e0) (by simp)).trans e0
            have k9 := fun W (hx : Ext [] w7 W) => (hx.cellAt (lt_of_cell e9) (by simp)).trans e9
            have K0 := Lib.hid k0
            have K9 := Lib.hid k9
            have XD : Ext [] w7 w7.drew := (Ext.refl [] w7).drew
            clear k0 k9
            go_region_held3 (fun w' => w'.cell? ⟨x, 0, none⟩ = some (.pointer (some ⟨d, 0, none⟩)) ∧ w'.cell? ⟨b9, off9 + j, none⟩ = some (.string ⟨#[119, 97, 108]⟩))
              (first | exact ⟨K0.out _ (Ext.refl [] w7), K9.out _ (Ext.refl [] w7)⟩ | exact ⟨K0.out _ XD, K9.out _ XD⟩ | exact ⟨K0.out _ (XD.trans x8), K9.out _ (XD.trans x8)⟩)
              (first | (go_at_call 37; refine HWA.out.mono ?_; rintro e w8 ⟨rfl, x8⟩))
            all_goals
              go_wp2_with fail
              go_meet
              exact ⟨rfl, (x7.drewN 1).trans x8⟩
          case rest =>
            obtain ⟨w9, rfl⟩ : ∃ w9 : World, w9 = wc := ⟨_, rfl⟩
            obtain ⟨rfl, x9⟩ := hcut
            rw [HCZ.out]
            go_wp2_with fail
            go_roundw
            case rel => exact ⟨j + 1, by omega, by go_num, by rw [HCO.out], Lib.hid (HXO.out.trans x9)⟩
            case measure => simp [intOf]; omega
    · obtain rfl : j = N.length := by omega
      have hfo : (k.get .other).b.length ≤ 1099511627776 := by rw [Dk.get_some H.out.xb.base.oth]; decide
      have hro := Read_disk_calls (H.out.xb.disk.nil HX2.out) .other hfo
      rw [errAt_zero H.out.on.on H.out.xb.base.oth, Dk.get_some H.out.xb.base.oth, if_pos rfl] at hro
      change Calls Tryz.prog 36 #[.pointer (some ⟨d, 0, none⟩), .string ⟨#[111, 116, 104, 101, 114]⟩] wo _ at hro
      have HRO := Lib.hid hro
      clear hro hfo
      obtain ⟨wt, hwt2⟩ : ∃ wt, wt = 64 + weightL s.log := ⟨_, rfl⟩
      have hwl : wt ≤ 268566592 := by omega
      have hcw : counted N F N.length ≤ 8192 + 4 * wt := by omega
      have HWT := Lib.hid hwt2
      clear hsm hwt hwt2
      go_upto_region 18 with (go_at_call 36; refine HRO.out.mono ?_; rintro e w5 ⟨v5, rfl, hv5, x5⟩; obtain ⟨a5, c5, rfl, _, _⟩ := hv5.shape)
      have X5 := HX2.out.trans x5
      have h5 := H.out.nil X5
      have f5 := h5.xb.row.facts
      have lx5 := h5.xb.row.lt
      have q6 := eq_left
      have hsv := h5.xb.rs
      have hwa5 := h5.wal
      have hrl5 := h5.rl
      have hsl : s.log.length ≤ 1099511627776 := by have := (may_parts h5.xb.ms).2.2.2.2.1; omega
      have hwei : ∀ W, Ext [] w5 W → Calls Tryz.prog 38 #[.agg #[.int .i64 s.term, .int .i64 s.vote, .slice asv s.log.length csv]] W fun e w' => e = .returned (.int .i64 (wt : Int)) ∧ Below W.heap.size W w' := fun W hx => by
        rw [HWT.out]
        exact Weight_calls s.term s.vote (.slice asv s.log.length csv) s.log (by have := HWT.out; omega) W (RdE.mono (RdE.ext hsv hx) hx.size)
      have hsav : ∀ W, Ext [] w5 W → Calls Tryz.prog 16 #[.pointer (some ⟨g, 0, none⟩)] W fun e w' => ∃ v', e = .returned (.agg #[.int .i64 s.term, .int .i64 s.vote, v']) ∧ OwnE w' W.heap.size v' s.log ∧ Below W.heap.size W w' := fun W hx =>
        Saved_calls (hwa5.ext hx (by simp)) s.log (RdE.mono (RdE.ext hrl5 hx) hx.size) hsl
      have hsame : ∀ W (v : Value), Ext [] w5 W → RdE W.heap.size W v s.log → Calls Tryz.prog 15 #[.agg #[.int .i64 s.term, .int .i64 s.vote, v], .agg #[.int .i64 s.term, .int .i64 s.vote, .slice asv s.log.length csv]] W fun e w' => e = .returned (.bool true) ∧ Below W.heap.size W w' := fun W v hx hv => by
        have := Same_calls v (.slice asv s.log.length csv) s s W hv (RdE.mono (RdE.ext hsv hx) hx.size)
        rw [same_of rfl rfl rfl] at this
        exact this
      have hfac : ∀ W, Ext [] w5 W → W.cell? ⟨x, 1, none⟩ = some (.pointer (some ⟨g, 0, none⟩)) ∧ W.cell? ⟨x, 2, none⟩ = some (.int .i64 s.term) ∧ W.cell? ⟨x, 3, none⟩ = some (.int .i64 s.vote) ∧ W.cell? ⟨x, 4, none⟩ = some (.slice asv s.log.length csv) ∧ (convert 30 9 (.slice a5 leftB.length c5)).run Tryz.prog W = .ok (.string ⟨#[108, 101, 102, 116, 32, 97, 108, 111, 110, 101]⟩) W := fun W hx =>
        ⟨(hx.cellAt lx5 (by simp)).trans f5.c1, (hx.cellAt lx5 (by simp)).trans f5.c2, (hx.cellAt lx5 (by simp)).trans f5.c3, (hx.cellAt lx5 (by simp)).trans f5.c4, RdB.toStr (w := W) (l := leftB) (RdB.ext hv5 hx)⟩
      have HWEI := Lib.hid hwei
      have HSAV := Lib.hid hsav
      have HSAME := Lib.hid hsame
      have HFAC := Lib.hid hfac
      have XD : Ext [] w5 w5.drew := (Ext.refl [] w5).drew
      generalize counted N F N.length = nn at *
      have hw1 : IntKind.i64.wrap (4 * (wt : Int)) = 4 * (wt : Int) := IntWalk.i64_in _ (by omega)
      have hw2 : IntKind.i64.wrap (8192 + 4 * (wt : Int)) = 8192 + 4 * (wt : Int) := IntWalk.i64_in _ (by omega)
      have hle : decide ((nn : Int) ≤ 8192 + 4 * (wt : Int)) = true := by simp; omega
      have hlen5 : leftB.length = 10 := rfl
      have HX5 := Lib.hid X5
      clear hwei hsav hsame hfac h5 f5 hsv hwa5 hrl5 X5 hlen5 q1 q2 q3 q4 q5
      go_region_held3 (fun w' => w'.cell? ⟨x, 1, none⟩ = some (.pointer (some ⟨g, 0, none⟩)) ∧ w'.cell? ⟨x, 2, none⟩ = some (.int .i64 s.term) ∧ w'.cell? ⟨x, 3, none⟩ = some (.int .i64 s.vote) ∧ w'.cell? ⟨x, 4, none⟩ = some (.slice asv s.log.length csv) ∧ (convert 30 9 (.slice a5 leftB.length c5)).run Tryz.prog w' = .ok (.string ⟨#[108, 101, 102, 116, 32, 97, 108, 111, 110, 101]⟩) w')
        (first | exact HFAC.out _ (Ext.refl [] w5) | exact HFAC.out _ XD | exact HFAC.out _ x6 | exact HFAC.out _ x7 | exact HFAC.out _ x8)
        (first
          | (go_at_call 38; refine (HWEI.out _ XD).mono ?_; rintro e w6 ⟨rfl, hb6⟩; have x6 : Ext [] w5 w6 := XD.trans (Ext.of_below hb6))
          | (go_at_call 16; refine (HSAV.out _ x6).mono ?_; rintro e w7 ⟨v7, rfl, ho7, hb7⟩; obtain ⟨a7, c7, rfl, _, _⟩ := ho7.rd.shape; have x7 : Ext [] w5 w7 := x6.trans (Ext.of_below hb7))
          | (go_at_call 15; refine (HSAME.out _ _ x7 ho7.rd).mono ?_; rintro e w8 ⟨rfl, hb8⟩; have x8 : Ext [] w5 w8 := x7.trans (Ext.of_below hb8)))
      go_wp2_with fail
      go_ret
      exact ⟨rfl, HX5.out.trans x8⟩
end Go.Proofs.YtipbfmalacnmkaaGreat
