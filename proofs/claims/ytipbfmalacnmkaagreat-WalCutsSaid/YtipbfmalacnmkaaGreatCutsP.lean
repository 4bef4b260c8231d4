/- WalCuts returns true, whatever deeds, fuses and cuts are handed in, and they read afterwards as they read before. No condition. -/
import Derived.Test.YtipbfmalacnmkaaGreatRows
import Derived.Test.YtipbfmalacnmkaaGreatCutsW
import Derived.Test.YtipbfmalacnmkaaGreatLift
import Derived.WideKeyArgs
import Derived.Carry
namespace Go.Proofs.YtipbfmalacnmkaaGreat.walCuts
open Go.ChangeShapes Go.WideShapes Go.ChangeAt Go.RowKit

theorem own : ownKnob Tryz.prog.godebug = none := by kernel_rfl
theorem laidOut : laidOutB Tryz.prog = true := by kernel_rfl
theorem read51 : Tryz.prog.readableRec 51 = true := by kernel_rfl
theorem row51 : 51 < Tryz.prog.types.size := by decide +kernel
theorem read54 : Tryz.prog.readableRec 54 = true := by kernel_rfl
theorem row54 : 54 < Tryz.prog.types.size := by decide +kernel

theorem slice_value {P : Program} {W : World} {base : Nat} {t e : TypeId} {v0 v : Value} (ht : P.underlying t = some (.slice e)) (h : Value.okWide P W .any base t v0) (hcs : v0.cells.toList = [v]) : v0 = v := by
  unfold Value.okWide at h
  rw [ht] at h
  simp only at h
  unfold Cell.okWide Cell.ok at h
  rw [ht] at h
  cases v0 <;> first | (simp at h; done) | (simpa [Value.cells] using hcs)
set_option maxRecDepth 100000 in
theorem lifted (os : Os) (started : os.Started) (H : Type) (enc : TypeId × Value → H) :
    ReturnsInHanded {} Tryz.checked os 6 .any (Rows.walCutsSpec.pre6 enc Tryz.prog Tryz.f6 Rows.walCutsRow.domain false) (Rows.walCutsSpec.post enc Tryz.prog Tryz.f6 false true false false) := by
  refine returnsInHanded_of_change (C := Tryz.checked) own started (by kernel_rfl) Tryz.func6
    (ChangeSpec.witness6 (enc := enc) (C := Tryz.checked) false ⟨#[], #[.slice none 0 0, .int .i64 0, .int .i64 0, .slice none 0 0], []⟩ 8 (by kernel_rfl) (by kernel_rfl) (by kernel_rfl) (by kernel_rfl)) ?_
  intro W base args ds gs before hval0 hW hcnd _
  have hW' := hW
  obtain ⟨p, q, hA0, hV, rfl, hfz, hnd⟩ := hW
  have hA : DataW.TrodAll enc Tryz.prog W 0 (fun _ => true) true Tryz.f6.params.toList args.toList ds p := hA0
  have hval : ∀ (j : Nat) t v, Tryz.f6.params[j]? = some t → args[j]? = some v → Value.okWide Tryz.prog W .any base t v := hval0
  rw [Tryz.params6] at hA hval
  obtain ⟨v0, v1, v2, v3, d0, d1, d2, d3, p0, p1, p2, p3, rfl, rfl, rfl, h0, h1, h2, h3⟩ := trodAll_four hA
  obtain ⟨rfl, rfl⟩ := trodVars_none hV
  clear hA0 hval0
  obtain ⟨n1, rfl, rfl, rfl, w1⟩ := open_int Tryz.underlying3 (hval 1 3 v1 rfl rfl) h1
  obtain ⟨n2, rfl, rfl, rfl, w2⟩ := open_int Tryz.underlying3 (hval 2 3 v2 rfl rfl) h2
  simp only [List.append_nil] at hW'
  obtain ⟨fuel, hf⟩ := id h0
  obtain ⟨v, l, hcs, hl⟩ := rdD_of_trod hf
  have hv : v0 = v := slice_value Tryz.underlying51 (hval 0 51 v0 rfl rfl) hcs
  subst hv
  obtain ⟨fuel3, hf3⟩ := id h3
  obtain ⟨v', ks, hcs3, hk⟩ := rdI_of_trod hf3
  have hv3 : v3 = v' := slice_value Tryz.underlying54 (hval 3 54 v3 rfl rfl) hcs3
  subst hv3
  refine (cuts_walk hl hk (wf_i64 w1).2 (wf_i64 w2).2).mono fun e W' ⟨he, hb⟩ => ?_
  subst he
  have hlt := hW'.lt
  exact ⟨_, rfl, post_of_below (pa := p0 ++ ([] ++ ([] ++ p3))) (pv := []) hW' (fun _ _ _ => trodAll_mk1 (shut_bool Tryz.underlying4 _))
    (fun sp hsp => trodAll_mk4 (WideElems.Trod_stays laidOut read51 row51 h0 (fun x hx => hb.same (hlt x (by simp [hx]))) (fun x hx => hsp x (by simp [hx]))) (shut_int Tryz.underlying3 w1) (shut_int Tryz.underlying3 w2)
      (WideElems.Trod_stays laidOut read54 row54 h3 (fun x hx => hb.same (hlt x (by simp [hx]))) (fun x hx => hsp x (by simp [hx])))) (fun _ _ => rfl) (by simp) hb (ok_one (by kernel_rfl) rfl (okWide_bool_mk Tryz.underlying4 _))⟩

theorem over : Rows.walCutsRow.holds Tryz.pinned (OpenSpec.ofChange Rows.walCutsSpec) :=
  OpenClaim.holds_of_wide 6 Tryz.f6 rfl rfl rfl rfl rfl rfl rfl ⟨rfl, rfl, rfl, rfl, rfl⟩ rfl rfl rfl rfl rfl (by kernel_rfl) Tryz.func6 (by kernel_rfl)
    (of_decide_eq_true (by kernel_rfl)) (by unfold Func.isWrapper; first | (rw [if_pos (by decide +kernel)]; kernel_rfl) | (rw [if_neg (by decide +kernel)]; exact ⟨rfl, rfl⟩))
    (fun os started H enc _ => lifted os started H enc)

theorem proved : Rows.WalCutsSaid := over
#print axioms proved
end Go.Proofs.YtipbfmalacnmkaaGreat.walCuts
