/- SizeNested answers true at every input, and each argument reads afterwards as it read before. No conditions. -/
import Derived.Test.YtncnpgakflmibaaRows
import Derived.Test.YtncnpgakflmibaaAi16
import Derived.Test.YtncnpgakflmibaaOk
import Derived.Test.YtncnpgakflmibaaSn8
set_option linter.unusedVariables false
namespace Go.Proofs.Ytncnpgakflmibaa.Ai
open Go.ChangeShapes Go.WideShapes Go.ChangeAt Go.RowKit Go.Proofs.Ytncnpgakflmibaa
theorem tryOwn : ownKnob Try.prog.godebug = none := by kernel_rfl
theorem tryLaid : laidOutB Try.prog = true := by kernel_rfl
set_option maxRecDepth 100000 in
theorem sizeNested_lifted (os : Os) (started : os.Started) (H : Type) (enc : TypeId × Value → H) :
    ReturnsInHanded {} Try.checked os 4 .any (Rows.sizeNestedSpec.pre6 enc Try.prog Try.f4 Rows.sizeNestedRow.domain false) (Rows.sizeNestedSpec.post enc Try.prog Try.f4 false true false false) := by
  refine returnsInHanded_of_change (C := Try.checked) tryOwn started (by kernel_rfl) Try.func4
    (ChangeSpec.witness6 (enc := enc) (C := Try.checked) false ⟨#[], #[.agg (Array.replicate 256 (.int .i64 0)), .slice none 0 0, .slice none 0 0], []⟩ 8 (by kernel_rfl) (by kernel_rfl) (by kernel_rfl) (by kernel_rfl)) ?_
  intro W base args ds gs before hval0 hW hcnd _
  have hval : ∀ (j : Nat) t v, Try.f4.params[j]? = some t → args[j]? = some v → Value.okWide Try.prog W .any base t v := hval0
  have hW' := hW
  obtain ⟨p, q, hA0, hV, rfl, hfz, hnd⟩ := hW
  have hA : DataW.TrodAll enc Try.prog W 0 (fun _ => true) true Try.f4.params.toList args.toList ds p := hA0
  rw [Try.params4] at hA hval
  obtain ⟨v0, vs0, d0, ds0, p0, q0, e0, rfl, rfl, h0, r0⟩ := trodAll_cons hA
  obtain ⟨v1, vs1, d1, ds1, p1, q1, rfl, rfl, rfl, h1, r1⟩ := trodAll_cons r0
  obtain ⟨v2, vs2, d2, ds2, p2, q2, rfl, rfl, rfl, h2, r2⟩ := trodAll_cons r1
  obtain ⟨rfl, rfl, rfl⟩ := trodAll_nil r2
  have hargs : args = #[v0, v1, v2] := Array.toList_inj.1 e0
  subst hargs
  obtain ⟨g, hg⟩ := cr_nums (n := 256) Try.underlying25 rfl Try.underlying23 Try.underlying2 (by kernel_rfl) (by kernel_rfl) (by kernel_rfl) (hval 0 25 v0 rfl rfl) h0
  obtain ⟨xs, hx⟩ := cr_ints Try.underlying22 Try.underlying2 (by kernel_rfl) (hval 1 22 v1 rfl rfl) h1
  obtain ⟨ys, hy⟩ := cr_ints Try.underlying22 Try.underlying2 (by kernel_rfl) (hval 2 22 v2 rfl rfl) h2
  obtain ⟨HH, ee, hspec⟩ := sizeNested_spec g xs ys
  refine (law_calls envOk hspec (.cons hg (.cons hx (.cons hy .nil)))).mono fun e W' ⟨he, hb⟩ => ?_
  subst he
  have hgs : gs = [] := by cases gs with
    | nil => rfl
    | cons g gs => exact hV.elim
  subst hgs
  exact ⟨_, rfl, post_of_below tryLaid (by kernel_rfl) rfl hW' hb (fun _ _ _ => trodAll_mk1 (shut_bool Try.underlying4 true)) rfl rfl⟩
theorem sizeNested_holds : Rows.SizeNestedSaid :=
  OpenClaim.holds_of_wide 4 Try.f4 rfl rfl rfl rfl rfl rfl rfl ⟨rfl, rfl, rfl, rfl, rfl⟩ rfl rfl rfl rfl rfl (by kernel_rfl) Try.func4 (by kernel_rfl)
    (of_decide_eq_true (by kernel_rfl)) (by unfold Func.isWrapper; first | (rw [if_pos (by decide +kernel)]; kernel_rfl) | (rw [if_neg (by decide +kernel)]; exact ⟨rfl, rfl⟩))
    (fun os started H enc _ => sizeNested_lifted os started H enc)
end Go.Proofs.Ytncnpgakflmibaa.Ai
namespace Go.Proofs.Ytncnpgakflmibaa
theorem sizeNested_holds : Rows.SizeNestedSaid := Ai.sizeNested_holds
end Go.Proofs.Ytncnpgakflmibaa
