/- DiskSame: for every input the law returns true, whatever lies in memory. No condition. -/
import Derived.Test.YtbclgklpcbajfaaRows
import Derived.Test.YtbclgklpcbajfaaD44
import Derived.Test.YtbclgklpcbajfaaD43
import Derived.Carry
import Derived.OpenShut
namespace Go.Proofs.Ytbclgklpcbajfaa.diskSame
open Go.RowKit Go.ChangeShapes Go.WideShapes Go.ChangeAt

theorem own : ownKnob Try.prog.godebug = none := by kernel_rfl
theorem laidOut : laidOutB Try.prog = true := by kernel_rfl

set_option maxRecDepth 100000 in
theorem lifted (os : Os) (started : os.Started) (H : Type) (enc : TypeId × Value → H) :
    ReturnsInHanded {} Try.checked os 7 .any (Rows.diskSameSpec.pre6 enc Try.prog Try.f7 Rows.diskSameRow.domain false) (Rows.diskSameSpec.post enc Try.prog Try.f7 false true false false) := by
  refine returnsInHanded_of_change (C := Try.checked) own started (by kernel_rfl) Try.func7
    (ChangeSpec.witness6 (enc := enc) (C := Try.checked) false ⟨#[], #[.slice none 0 0, .slice none 0 0], []⟩ 8 (by kernel_rfl) (by kernel_rfl) (by kernel_rfl) (by kernel_rfl)) ?_
  intro W base args ds gs before hval0 hW _ _
  have hval : ∀ (j : Nat) t v, Try.f7.params[j]? = some t → args[j]? = some v → Value.okWide Try.prog W .any base t v := hval0
  have hW' := hW
  obtain ⟨p, q, hA0, hV, rfl, hfz, hnd⟩ := hW
  have hA : DataW.TrodAll enc Try.prog W 0 (fun _ => true) true Try.f7.params.toList args.toList ds p := hA0
  rw [Try.params7] at hA hval
  obtain ⟨v0, vs0, d0, ds0, p0, q0, hargs, rfl, rfl, h0, r0⟩ := trodAll_cons hA
  obtain ⟨v1, vs1, d1, ds1, p1, q1, rfl, rfl, rfl, h1, r1⟩ := trodAll_cons r0
  obtain ⟨rfl, rfl, rfl⟩ := trodAll_nil r1
  obtain rfl : args = #[v0, v1] := by cases args; simp_all
  obtain ⟨rfl, rfl⟩ := trodVars_none hV
  have lt0 : ∀ x ∈ p0, x.block < W.heap.size := by obtain ⟨m, hm⟩ := h0; exact DataW.trod_lt m _ _ _ hm
  have lt1 : ∀ x ∈ p1, x.block < W.heap.size := by obtain ⟨m, hm⟩ := h1; exact DataW.trod_lt m _ _ _ hm
  obtain ⟨pa0, pn0, pc0, e0⟩ := okWide_slice Try.underlying29 (hval 0 29 v0 rfl rfl)
  obtain ⟨l0, a0⟩ : ∃ l0, Deeds W v0 l0 ∧ ∀ a ∈ l0, a.n ≤ 2 ^ 63 - 1 := by
    obtain ⟨m, hm⟩ := h0
    obtain ⟨v, l, e, hl⟩ := deeds_arg2 hm
    have ev : v0 = v := by
      rw [e0] at e
      simp [Value.cells] at e
      rw [e0, e]
    exact ⟨l, ev ▸ hl⟩
  obtain ⟨pa1, pn1, pc1, e1⟩ := okWide_slice Try.underlying29 (hval 1 29 v1 rfl rfl)
  obtain ⟨l1, a1⟩ : ∃ l1, Deeds W v1 l1 ∧ ∀ a ∈ l1, a.n ≤ 2 ^ 63 - 1 := by
    obtain ⟨m, hm⟩ := h1
    obtain ⟨v, l, e, hl⟩ := deeds_arg2 hm
    have ev : v1 = v := by
      rw [e1] at e
      simp [Value.cells] at e
      rw [e1, e]
    exact ⟨l, ev ▸ hl⟩
  clear hA0 hval0
  refine (dsame_law v0 v1 l0 l1 W a0.1 a0.2 a1.1 a1.2).mono fun e W' ⟨he, bel⟩ => ?_
  subst he
  exact ⟨_, rfl, _, _, _, [], _, [], hW', trodAll_mk1 (shut_bool Try.underlying4 _), trodAll_cons_mk (Below.trod laidOut (by kernel_rfl) (of_decide_eq_true (by kernel_rfl)) h0 bel lt0) (trodAll_cons_mk (Below.trod laidOut (by kernel_rfl) (of_decide_eq_true (by kernel_rfl)) h1 bel lt1) trodAll_mk0), rfl, bel.frame _, fun h => by cases h⟩

theorem proved : Rows.DiskSameSaid :=
  OpenClaim.holds_of_wide 7 Try.f7 rfl rfl rfl rfl rfl rfl rfl ⟨rfl, rfl, rfl, rfl, rfl⟩ rfl rfl rfl rfl rfl (by kernel_rfl) Try.func7 (by kernel_rfl)
    (of_decide_eq_true (by kernel_rfl)) (by unfold Func.isWrapper; first | (rw [if_pos (by decide +kernel)]; kernel_rfl) | (rw [if_neg (by decide +kernel)]; exact ⟨rfl, rfl⟩))
    (fun os started H enc _ => lifted os started H enc)
#print axioms proved
end Go.Proofs.Ytbclgklpcbajfaa.diskSame
