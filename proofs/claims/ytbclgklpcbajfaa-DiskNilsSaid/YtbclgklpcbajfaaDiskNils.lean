/- DiskNils: for every number and every list of booleans the law returns true, whatever lies in memory. No condition. -/
import Derived.Test.YtbclgklpcbajfaaRows
import Derived.Test.YtbclgklpcbajfaaD14
import Derived.Test.YtbclgklpcbajfaaA14
import Derived.Deep.Grids
import Derived.Carry
import Derived.OpenShut
namespace Go.Proofs.Ytbclgklpcbajfaa.diskNils
open Go.RowKit Go.ChangeShapes Go.WideShapes Go.ChangeAt

theorem own : ownKnob Try.prog.godebug = none := by kernel_rfl
theorem laidOut : laidOutB Try.prog = true := by kernel_rfl
theorem cells4 : Try.prog.cellsOf 4 = 1 := by kernel_rfl

/-- A slice of booleans that came in. -/
theorem bools_arg {H : Type} {enc : TypeId × Value → H} {w : World} {base : Nat} {held : Bool} {fuel : Nat} {cs : List Value} {x : DataW H × List MemPlace} (h : DataW.trod enc Try.prog w base (fun _ => true) held fuel 30 cs = some x) : ∃ v l, cs = [v] ∧ Bools w v l := by
  rcases Go.Deep.open_bools Try.underlying30 Try.underlying4 cells4 h with ⟨rfl, _⟩ | ⟨a, len, cap, B, rfl, _, hl, hm, _, hcell⟩
  · exact ⟨_, [], rfl, none, 0, rfl, Nat.le_refl _, by decide, fun h => absurd h (by decide)⟩
  · have hs : ((List.range len).map B).length = len := by simp
    refine ⟨_, (List.range len).map B, rfl, some a, cap, by rw [hs], by rw [hs]; exact hl, hm, fun h0 => ?_⟩
    rw [hs] at h0
    obtain ⟨e, hb⟩ := addr_plain (hcell 0 (by omega) : w.cell? (a.add 0) = _)
    have e0 : a.add 0 = a := by simp [Addr.add]
    rw [e0] at e hb
    refine ⟨a.block, a.off, by rw [← e], hb, fun i hi => ?_⟩
    rw [List.length_map, hs] at hi
    have hc := hcell i (by omega)
    rw [e, plain_add] at hc
    rw [hc]
    simp [List.getD_eq_getElem?_getD, hi]

set_option maxRecDepth 100000 in
theorem lifted (os : Os) (started : os.Started) (H : Type) (enc : TypeId × Value → H) :
    ReturnsInHanded {} Try.checked os 10 .any (Rows.diskNilsSpec.pre6 enc Try.prog Try.f10 Rows.diskNilsRow.domain false) (Rows.diskNilsSpec.post enc Try.prog Try.f10 false true false false) := by
  refine returnsInHanded_of_change (C := Try.checked) own started (by kernel_rfl) Try.func10
    (ChangeSpec.witness6 (enc := enc) (C := Try.checked) false ⟨#[], #[.int .i64 0, .slice none 0 0], []⟩ 8 (by kernel_rfl) (by kernel_rfl) (by kernel_rfl) (by kernel_rfl)) ?_
  intro W base args ds gs before hval0 hW _ _
  have hval : ∀ (j : Nat) t v, Try.f10.params[j]? = some t → args[j]? = some v → Value.okWide Try.prog W .any base t v := hval0
  have hW' := hW
  obtain ⟨p, q, hA0, hV, rfl, hfz, hnd⟩ := hW
  have hA : DataW.TrodAll enc Try.prog W 0 (fun _ => true) true Try.f10.params.toList args.toList ds p := hA0
  rw [Try.params10] at hA hval
  obtain ⟨v0, vs0, d0, ds0, p0, q0, hargs, rfl, rfl, h0, r0⟩ := trodAll_cons hA
  obtain ⟨v1, vs1, d1, ds1, p1, q1, rfl, rfl, rfl, h1, r1⟩ := trodAll_cons r0
  obtain ⟨rfl, rfl, rfl⟩ := trodAll_nil r1
  obtain rfl : args = #[v0, v1] := by cases args; simp_all
  obtain ⟨rfl, rfl⟩ := trodVars_none hV
  have lt0 : ∀ x ∈ p0, x.block < W.heap.size := by obtain ⟨m, hm⟩ := h0; exact DataW.trod_lt m _ _ _ hm
  have lt1 : ∀ x ∈ p1, x.block < W.heap.size := by obtain ⟨m, hm⟩ := h1; exact DataW.trod_lt m _ _ _ hm
  obtain ⟨n, e0, _⟩ := open_int Try.underlying3 (hval 0 3 v0 rfl rfl) h0
  obtain ⟨pa, pn, pc, e2⟩ := okWide_slice Try.underlying30 (hval 1 30 v1 rfl rfl)
  obtain ⟨l, e1⟩ : ∃ l, Bools W v1 l := by
    obtain ⟨m, hm⟩ := h1
    obtain ⟨v, l, e, hl⟩ := bools_arg hm
    have ev : v1 = v := by
      rw [e2] at e
      simp [Value.cells] at e
      rw [e2, e]
    exact ⟨l, ev ▸ hl⟩
  subst e0
  clear hA0 hval0
  refine (nils_any n v1 l W e1).mono fun e W' ⟨he, bel⟩ => ?_
  subst he
  exact ⟨_, rfl, _, _, _, [], _, [], hW', trodAll_mk1 (shut_bool Try.underlying4 _), trodAll_cons_mk (Below.trod laidOut (by kernel_rfl) (of_decide_eq_true (by kernel_rfl)) h0 bel lt0) (trodAll_cons_mk (Below.trod laidOut (by kernel_rfl) (of_decide_eq_true (by kernel_rfl)) h1 bel lt1) trodAll_mk0), rfl, bel.frame _, fun h => by cases h⟩

theorem proved : Rows.DiskNilsSaid :=
  OpenClaim.holds_of_wide 10 Try.f10 rfl rfl rfl rfl rfl rfl rfl ⟨rfl, rfl, rfl, rfl, rfl⟩ rfl rfl rfl rfl rfl (by kernel_rfl) Try.func10 (by kernel_rfl)
    (of_decide_eq_true (by kernel_rfl)) (by unfold Func.isWrapper; first | (rw [if_pos (by decide +kernel)]; kernel_rfl) | (rw [if_neg (by decide +kernel)]; exact ⟨rfl, rfl⟩))
    (fun os started H enc _ => lifted os started H enc)
#print axioms proved
end Go.Proofs.Ytbclgklpcbajfaa.diskNils
