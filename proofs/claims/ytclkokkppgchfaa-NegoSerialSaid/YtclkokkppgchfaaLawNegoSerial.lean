/- For every world and every list of choices, NegoSerial returns true: the proposals that were carried out, applied one by one in the order of their decisions, each find their items in the versions that they claim. No conditions. -/
import Derived.Test.YtclkokkppgchfaaNegoSerialOwn11
namespace Go.Proofs.Ytclkokkppgchfaa
open Go.ChangeShapes Go.WideShapes Go.ChangeAt Go.RowKit Go.Ng
set_option linter.unusedVariables false
set_option maxRecDepth 100000 in
theorem negoSerial_lifted (os : Os) (started : os.Started) (H : Type) (enc : TypeId × Value → H) :
    ReturnsInHanded {} Try.checked os 12 .any (Rows.negoSerialSpec.pre6 enc Try.prog Try.f12 Rows.negoSerialRow.domain false) (Rows.negoSerialSpec.post enc Try.prog Try.f12 false true false false) := by
  refine returnsInHanded_of_change (C := Try.checked) Try.own started (by kernel_rfl) Try.func12
    (ChangeSpec.witness6 (enc := enc) (C := Try.checked) false ⟨#[], #[.agg #[.int .i64 0, .slice none 0 0, .slice none 0 0], .slice none 0 0], []⟩ 8 (by kernel_rfl) (by kernel_rfl) (by kernel_rfl) (by kernel_rfl)) ?_
  intro W base args ds gs before hval0 hW hcnd _
  have hval : ∀ (j : Nat) t v, Try.f12.params[j]? = some t → args[j]? = some v → Value.okWide Try.prog W .any base t v := hval0
  have hW' := hW
  obtain ⟨p, q, hA0, hV, rfl, hfz, hnd⟩ := hW
  have hA : DataW.TrodAll enc Try.prog W 0 (fun _ => true) true Try.f12.params.toList args.toList ds p := hA0
  rw [Try.params12] at hA hval
  obtain ⟨v0, vs0, d0, ds0, p0, q0, hargs, rfl, rfl, h0, r0⟩ := trodAll_cons hA
  obtain ⟨v1, vs1, d1, ds1, p1, q1, hvs, rfl, rfl, h1, r1⟩ := trodAll_cons r0
  obtain ⟨rfl, rfl, rfl⟩ := trodAll_nil r1
  obtain rfl : args = #[v0, v1] := by cases args; simp_all
  obtain ⟨rfl, rfl⟩ := trodVars_none hV
  have k0 := h0
  have k1 := h1
  have lt0 : ∀ x ∈ p0, x.block < W.heap.size := by obtain ⟨m, hm⟩ := k0; exact DataW.trod_lt m _ _ _ hm
  have lt1 : ∀ x ∈ p1, x.block < W.heap.size := by obtain ⟨m, hm⟩ := k1; exact DataW.trod_lt m _ _ _ hm
  obtain ⟨places, items, l, hw⟩ := open_world (hval 0 75 v0 rfl rfl) h0
  obtain ⟨choices, hc, hce⟩ := open_ints_arg (hval 1 22 v1 rfl rfl) h1
  clear hA0 hval0
  refine (negoSerial_ok hw hc hce (tag0_ok W)).mono fun e W' ⟨he, T, hF⟩ => ?_
  have bel : Below W.heap.size W W' := hF.below (fun b hb h => by simp [tag0] at h)
  subst he
  exact ⟨_, rfl, _, _, _, [], _, [], hW', trodAll_mk1 (shut_bool Try.underlying4 _), (trodAll_cons_mk (Below.trod Try.laidOut (by kernel_rfl) (of_decide_eq_true (by kernel_rfl)) k0 bel lt0) (trodAll_cons_mk (Below.trod Try.laidOut (by kernel_rfl) (of_decide_eq_true (by kernel_rfl)) k1 bel lt1) trodAll_mk0)), rfl, bel.frame _, fun h => by cases h⟩
theorem negoSerial_over : Rows.negoSerialRow.holds Try.pinned (OpenSpec.ofChange Rows.negoSerialSpec) :=
  OpenClaim.holds_of_wide 12 Try.f12 rfl rfl rfl rfl rfl rfl rfl ⟨rfl, rfl, rfl, rfl, rfl⟩ rfl rfl rfl rfl rfl (by kernel_rfl) Try.func12 (by kernel_rfl)
    (of_decide_eq_true (by kernel_rfl)) (by unfold Func.isWrapper; first | (rw [if_pos (by decide +kernel)]; kernel_rfl) | (rw [if_neg (by decide +kernel)]; exact ⟨rfl, rfl⟩))
    (fun os started H enc _ => negoSerial_lifted os started H enc)
theorem negoSerial_holds : Rows.NegoSerialSaid := negoSerial_over
#print axioms negoSerial_holds
end Go.Proofs.Ytclkokkppgchfaa
