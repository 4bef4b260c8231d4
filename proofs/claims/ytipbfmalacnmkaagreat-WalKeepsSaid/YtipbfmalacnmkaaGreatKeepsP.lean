/- WalKeeps returns true, whatever deeds are handed in, and they read afterwards as they read before. No condition. -/
import Derived.Test.YtipbfmalacnmkaaGreatRows
import Derived.Test.YtipbfmalacnmkaaGreatKeepsW
import Derived.Test.YtipbfmalacnmkaaGreatLift
import Derived.WideKeyArgs
namespace Go.Proofs.YtipbfmalacnmkaaGreat.walKeeps
open Go.ChangeShapes Go.WideShapes Go.ChangeAt Go.RowKit

theorem own : ownKnob Tryz.prog.godebug = none := by kernel_rfl
theorem laidOut : laidOutB Tryz.prog = true := by kernel_rfl
theorem read51 : Tryz.prog.readableRec 51 = true := by kernel_rfl
theorem row51 : 51 < Tryz.prog.types.size := by decide +kernel

theorem slice_value {P : Program} {W : World} {base : Nat} {t e : TypeId} {v0 v : Value} (ht : P.underlying t = some (.slice e)) (h : Value.okWide P W .any base t v0) (hcs : v0.cells.toList = [v]) : v0 = v := by
  unfold Value.okWide at h
  rw [ht] at h
  simp only at h
  unfold Cell.okWide Cell.ok at h
  rw [ht] at h
  cases v0 <;> first | (simp at h; done) | (simpa [Value.cells] using hcs)
set_option maxRecDepth 100000 in
theorem lifted (os : Os) (started : os.Started) (H : Type) (enc : TypeId × Value → H) :
    ReturnsInHanded {} Tryz.checked os 5 .any (Rows.walKeepsSpec.pre6 enc Tryz.prog Tryz.f5 Rows.walKeepsRow.domain false) (Rows.walKeepsSpec.post enc Tryz.prog Tryz.f5 false true false false) := by
  refine returnsInHanded_of_change (C := Tryz.checked) own started (by kernel_rfl) Tryz.func5
    (ChangeSpec.witness6 (enc := enc) (C := Tryz.checked) false ⟨#[], #[.slice none 0 0], []⟩ 8 (by kernel_rfl) (by kernel_rfl) (by kernel_rfl) (by kernel_rfl)) ?_
  intro W base args ds gs before hval0 hW hcnd _
  have hW' := hW
  obtain ⟨p, q, hA0, hV, rfl, hfz, hnd⟩ := hW
  have hA : DataW.TrodAll enc Tryz.prog W 0 (fun _ => true) true Tryz.f5.params.toList args.toList ds p := hA0
  have hval : ∀ (j : Nat) t v, Tryz.f5.params[j]? = some t → args[j]? = some v → Value.okWide Tryz.prog W .any base t v := hval0
  rw [Tryz.params5] at hA hval
  obtain ⟨v0, d0, rfl, rfl, h0⟩ := trodAll_one hA
  obtain ⟨rfl, rfl⟩ := trodVars_none hV
  clear hA0 hval0
  simp only [List.append_nil] at hW'
  obtain ⟨fuel, hf⟩ := id h0
  obtain ⟨v, l, hcs, hl⟩ := rdD_of_trod hf
  have hv : v0 = v := slice_value Tryz.underlying51 (hval 0 51 v0 rfl rfl) hcs
  subst hv
  refine (keeps_walk hl).mono fun e W' ⟨he, hb⟩ => ?_
  subst he
  have hlt := hW'.lt
  exact ⟨_, rfl, post_of_below (pa := p) (pv := []) hW' (fun _ _ _ => trodAll_mk1 (shut_bool Tryz.underlying4 _)) (fun sp hsp => trodAll_mk1 (WideElems.Trod_stays laidOut read51 row51 h0 (fun x hx => hb.same (hlt x hx)) (fun x hx => hsp x hx))) (fun _ _ => rfl) (by simp) hb (ok_one (by kernel_rfl) rfl (okWide_bool_mk Tryz.underlying4 _))⟩

theorem over : Rows.walKeepsRow.holds Tryz.pinned (OpenSpec.ofChange Rows.walKeepsSpec) :=
  OpenClaim.holds_of_wide 5 Tryz.f5 rfl rfl rfl rfl rfl rfl rfl ⟨rfl, rfl, rfl, rfl, rfl⟩ rfl rfl rfl rfl rfl (by kernel_rfl) Tryz.func5 (by kernel_rfl)
    (of_decide_eq_true (by kernel_rfl)) (by unfold Func.isWrapper; first | (rw [if_pos (by decide +kernel)]; kernel_rfl) | (rw [if_neg (by decide +kernel)]; exact ⟨rfl, rfl⟩))
    (fun os started H enc _ => lifted os started H enc)

theorem proved : Rows.WalKeepsSaid := over
#print axioms proved
end Go.Proofs.YtipbfmalacnmkaaGreat.walKeeps
