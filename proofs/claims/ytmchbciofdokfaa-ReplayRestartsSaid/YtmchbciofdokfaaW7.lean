/- slices.Sorted(maps.Keys(m)) at the map of units: the keys, ascending. -/
import Derived.Test.YtmchbciofdokfaaW6
import Derived.Test.YtmchbciofdokfaaR0
namespace Go.Proofs.Ytmchbciofdokfaa
open Go.RowKit Go.Maps Go.Sort Go.Shelf
open Go.WideElems (Fit rd rg pl)
set_option linter.unusedSimpArgs false
set_option linter.unusedVariables false

/-- slices.Sort's two contracts, at the fence that asks nothing. -/
theorem sortsI (m : Nat) : AnyZI.SortsIn Try.prog Try.sortedI_ren Fence.wide m :=
  ⟨fun blk off cap ss W hH hblk hsz => callsIn_wide.2 (AnyM.slices_Sort_int Try.sortI blk off cap ss W hH hblk hsz),
   fun p cap W => callsIn_wide.2 (AnyM.slices_Sort_int_none Try.sortI p cap W)⟩
def anyR (v : Value) : Option (DataW Unit × List MemPlace) := some (.nil, [])
theorem rg_any {es : List MapEntry} {l : List (Int × Value)} (h : kvs es = kvOf l) (hw : ∀ p ∈ l, (Lit.int .i64 p.1).wf = true) : es.map (rg Try.prog 3 anyR) = l.map fun p => (Lit.int .i64 p.1, DataW.nil) := by
  induction es generalizing l with
  | nil =>
    cases l with
    | nil => rfl
    | cons p l => simp [kvs, kvOf] at h
  | cons x es ih =>
    cases l with
    | nil => simp [kvs, kvOf] at h
    | cons p l =>
      simp only [kvs, kvOf, List.map_cons, List.cons.injEq, Prod.mk.injEq] at h
      obtain ⟨⟨h1, h2⟩, h3⟩ := h
      rw [List.map_cons, List.map_cons, ih h3 (fun q hq => hw q (List.mem_cons_of_mem _ hq))]
      have hk : keyOf Try.prog 3 x.key = some (.int .i64 p.1) := by
        rw [h1]
        exact Maps.keyOf_int_mk Try.underlying3 (hw p (by simp))
      have hx : rg Try.prog 3 anyR x = (Lit.int .i64 p.1, DataW.nil) := by
        unfold Go.WideElems.rg Go.WideElems.rd
        rw [hk]
        rfl
      rw [hx]
theorem owns_any {w : World} {b : Nat} {l : List (Int × Value)} (h : IMap w b l) (hw : ∀ p ∈ l, (Lit.int .i64 p.1).wf = true) (hl : l.length ≤ 100000) : ∃ D : DataW Unit, w.ownsMap Try.prog 3 anyR b l.length D ∧ (intKeys D).Perm (l.map (·.1)) ∧ Maps.size D = l.length := by
  obtain ⟨es, clock, hb, hs, hk⟩ := h
  have hlen : es.size = l.length := by
    have := congrArg List.length hk
    simpa [kvs, kvOf] using this
  have hrg := rg_any hk hw
  refine ⟨.map ((es.toList.map (rg Try.prog 3 anyR)).foldr DataW.insert []), ⟨es, clock, hb, ⟨by unfold maxLen; omega, hs, fun x hx => ?_⟩, by omega, rfl⟩, ?_, ?_⟩
  · obtain ⟨n, hn⟩ : ∃ n, x.key = .int .i64 n ∧ (Lit.int .i64 n).wf = true := by
      obtain ⟨j, hj⟩ := List.mem_iff_getElem?.1 hx
      have := kvs_get hk j
      rw [hj] at this
      cases hp : l[j]? with
      | none => rw [hp] at this; cases this
      | some p =>
        rw [hp] at this
        simp at this
        exact ⟨p.1, this.1, hw p (List.mem_of_getElem? hp)⟩
    have hk' : keyOf Try.prog 3 x.key = some (.int .i64 n) := by
      rw [hn.1]
      exact Maps.keyOf_int_mk Try.underlying3 hn.2
    exact ⟨(.int .i64 n, .nil), by unfold Go.WideElems.rd; rw [hk']; rfl⟩
  · rw [hrg]
    show List.Perm (((l.map fun p => (Lit.int .i64 p.1, (DataW.nil : DataW Unit))).foldr DataW.insert []).map fun p => Go.intOf p.1) _
    refine ((Go.WideShapes.sorted_perm _).map _).trans ?_
    rw [List.map_map]
    exact List.Perm.of_eq (List.map_congr_left fun p _ => rfl)
  · rw [hrg]
    show ((l.map fun p => (Lit.int .i64 p.1, (DataW.nil : DataW Unit))).foldr DataW.insert []).length = l.length
    rw [(Go.WideShapes.sorted_perm _).length_eq, List.length_map]
theorem keys_call (mb : Option Nat) (W : World) : Calls Try.prog 65 #[.map mb] W fun e w' => e = .returned (.func (.func 91) #[] #[.pointer (some ⟨W.heap.size, 0, none⟩)]) ∧ w' = W.alloc (.cells #[.map mb] 62) := by
  have := AnyZI.keys_in Try.keysU Fence.wide 5 trivial rfl mb W
  exact (callsIn_wide (n := 5)).1 this
/-- The keys of a map, ascending, in a new row. -/
def KeysIs (l : List (Int × Value)) (w : World) (e : Ending) (w' : World) : Prop := ∃ (v : Value) (ks : List Int), e = .returned v ∧ ks.Pairwise (· ≤ ·) ∧ ks.Perm (l.map (·.1)) ∧ w'.ownsRow w.heap.size 3 1 v ks.length (ks.map (Value.int .i64)) ∧ New w w'
set_option maxHeartbeats 1000000 in
theorem sorted_call (b : Nat) (l : List (Int × Value)) (w : World) (h : IMap w b l) (hw : ∀ p ∈ l, (Lit.int .i64 p.1).wf = true) (hl : l.length ≤ 100000) :
    Calls Try.prog 64 #[.func (.func 91) #[] #[.pointer (some ⟨w.heap.size, 0, none⟩)]] (w.alloc (.cells #[.map (some b)] 62)) (KeysIs l w) := by
  obtain ⟨D0, hown, hperm, hsz⟩ := owns_any h hw hl
  have hbl := hown.lt
  have hseq : SeqGives Fence.wide 2 Try.prog 91 #[.pointer (some ⟨w.heap.size, 0, none⟩)] encZ (fun ss => ss.Perm (intKeys D0)) (Maps.size D0) (w.alloc (.cells #[.map (some b)] 62)) :=
    AnyZI.keys_gives (ρ := Try.keysU_ren) { Try.keysU with } Fence.wide _ trivial rfl (by omega) w.heap.size b l.length D0 _ (by simp) (by simp) (by
      obtain ⟨es, clock, hb, Ft, hs, hD⟩ := hown
      exact ⟨es, clock, (Below.heap_alloc _ _ b hbl).trans hb, Ft, hs, hD⟩)
  have cS := AnyZI.sorted_in Try.sortedI Fence.wide 5 trivial trivial trivial trivial rfl (by omega) (sortsI _) (enters_of Try.func54 (by kernel_rfl) rfl) 91 #[.pointer (some ⟨w.heap.size, 0, none⟩)] trivial (enters_of Try.func91 (by kernel_rfl) rfl) _ _ (by unfold maxLen; omega) (by omega) _ hseq
  change CallsIn _ _ Try.prog 64 _ _ _ at cS
  refine ((callsIn_wide (n := 5)).1 cS).mono ?_
  rintro e w' ⟨v, ss, rfl, hp, hrow, _, hb⟩
  have hr : w'.ownsRow w.heap.size 3 1 v ss.length ((ss.mergeSort fun x y => decide (x ≤ y)).map encZ) := ownsRow_base_a hrow (by simp)
  refine ⟨v, ss.mergeSort (fun x y => decide (x ≤ y)), rfl, ?_, ((List.mergeSort_perm _ _).trans hp).trans hperm, ?_, (Below.alloc (New.refl w) (Nat.le_refl _) _).trans (hb.mono (by simp))⟩
  · have := List.pairwise_mergeSort (le := fun x y : Int => decide (x ≤ y)) (fun a b c h1 h2 => by simp at *; omega) (fun a b => by simp; omega) ss
    exact this.imp fun h => by simpa using h
  · rw [List.length_mergeSort]
    exact hr
end Go.Proofs.Ytmchbciofdokfaa
