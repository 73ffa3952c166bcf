/- What restart appends, in plain words: one step after the other, each the only one. -/
import Derived.Test.YtmchbciofdokfaaW1
namespace Go.Proofs.Ytmchbciofdokfaa
open Go.RowKit
set_option linter.unusedSimpArgs false
set_option linter.unusedVariables false

/-- The units that are left to end, and what is left of each unit. -/
structure Todo where
  open_ : List Opn
  left : Int → List Nat
def overRec (n : Int) : Rec := ⟨4, n, 0, 0, ByteArray.empty, ByteArray.empty, 0, 0, ByteArray.empty, []⟩
/-- The record that undoes the last change of a unit. -/
def undoRec (l : List Rec) (f : Int → List Nat) (o : Opn) : Rec := ⟨2, o.unit, (recN l o.next.toNat).page, (recN l o.next.toNat).at_, ByteArray.empty, (recN l o.next.toNat).before, o.next, (lastN (f o.unit).dropLast : Int), ByteArray.empty, []⟩
def popL (f : Int → List Nat) (n : Int) : Int → List Nat := fun m => if m = n then (f m).dropLast else f m
inductive Step (l : List Rec) : Todo → Rec → Todo → Prop
  | over {T1 T2 : List Opn} {o : Opn} {f : Int → List Nat} (h1 : ∀ x ∈ T1, x.next ≠ 0) (h2 : o.next = 0) : Step l ⟨T1 ++ o :: T2, f⟩ (overRec o.unit) ⟨T1 ++ T2, f⟩
  | undo {T1 T2 : List Opn} {o : Opn} {f : Int → List Nat} (h1 : ∀ x ∈ T1 ++ o :: T2, x.next ≠ 0) (h2 : ∀ x ∈ T1, x.next < o.next) (h3 : ∀ x ∈ T2, x.next ≤ o.next) :
      Step l ⟨T1 ++ o :: T2, f⟩ (undoRec l f o) ⟨T1 ++ ⟨o.unit, (lastN (f o.unit).dropLast : Int), o.ready⟩ :: T2, popL f o.unit⟩
theorem split_one {P : Opn → Prop} {T1 T2 U1 U2 : List Opn} {o u : Opn} (h : T1 ++ o :: T2 = U1 ++ u :: U2) (hT : ∀ x ∈ T1, ¬ P x) (ho : P o) (hU : ∀ x ∈ U1, ¬ P x) (hu : P u) : T1 = U1 ∧ o = u ∧ T2 = U2 := by
  induction T1 generalizing U1 with
  | nil =>
    cases U1 with
    | nil => simp at h; exact ⟨rfl, h⟩
    | cons a U1 =>
      simp at h
      exact absurd (h.1 ▸ ho) (hU a (by simp))
  | cons a T1 ih =>
    cases U1 with
    | nil =>
      simp at h
      exact absurd (h.1 ▸ hu) (hT a (by simp))
    | cons b U1 =>
      simp at h
      obtain ⟨e1, e2, e3⟩ := ih h.2 (fun x hx => hT x (by simp [hx])) (fun x hx => hU x (by simp [hx]))
      exact ⟨by rw [h.1, e1], e2, e3⟩
theorem Step.det {l : List Rec} {s t t' : Todo} {r r' : Rec} (h : Step l s r t) (h' : Step l s r' t') : r = r' ∧ t = t' := by
  cases h with
  | @over T1 T2 o f a1 a2 =>
    generalize hs : (⟨T1 ++ o :: T2, f⟩ : Todo) = s at h'
    cases h' with
    | @over U1 U2 u g b1 b2 =>
      injection hs with h1 h2
      subst h2
      obtain ⟨rfl, rfl, rfl⟩ := split_one (P := fun x => x.next = 0) h1 a1 a2 b1 b2
      exact ⟨rfl, rfl⟩
    | @undo U1 U2 u g b1 b2 b3 =>
      injection hs with h1 h2
      exact absurd a2 (b1 o (h1 ▸ by simp))
  | @undo T1 T2 o f a1 a2 a3 =>
    generalize hs : (⟨T1 ++ o :: T2, f⟩ : Todo) = s at h'
    cases h' with
    | @over U1 U2 u g b1 b2 =>
      injection hs with h1 h2
      exact absurd b2 (a1 u (h1 ▸ by simp))
    | @undo U1 U2 u g b1 b2 b3 =>
      injection hs with h1 h2
      subst h2
      have key : T1 = U1 ∧ o = u ∧ T2 = U2 := by
        have hm : o.next = u.next := by
          have hu : u ∈ T1 ++ o :: T2 := h1 ▸ by simp
          have ho : o ∈ U1 ++ u :: U2 := h1 ▸ by simp
          have e1 : u.next ≤ o.next := by
            rcases List.mem_append.1 hu with h | h
            · have := a2 u h; omega
            · rcases List.mem_cons.1 h with rfl | h
              · omega
              · exact a3 u h
          have e2 : o.next ≤ u.next := by
            rcases List.mem_append.1 ho with h | h
            · have := b2 o h; omega
            · rcases List.mem_cons.1 h with rfl | h
              · omega
              · exact b3 o h
          omega
        exact split_one (P := fun x => o.next ≤ x.next) h1 (fun x hx => by have := a2 x hx; omega) (by omega) (fun x hx => by have := b2 x hx; omega) (by omega)
      obtain ⟨rfl, rfl, rfl⟩ := key
      exact ⟨rfl, rfl⟩
theorem Step.none {l : List Rec} {f : Int → List Nat} {r : Rec} {t : Todo} : ¬ Step l ⟨[], f⟩ r t := fun h => by
  generalize hs : (⟨[], f⟩ : Todo) = s at h
  cases h with
  | over => injection hs with h1; simp at h1
  | undo => injection hs with h1; simp at h1
/-- Steps, one behind the other. -/
inductive Steps (l : List Rec) : Todo → List Rec → Todo → Prop
  | nil {s : Todo} : Steps l s [] s
  | snoc {s t u : Todo} {O : List Rec} {r : Rec} (h : Steps l s O t) (k : Step l t r u) : Steps l s (O ++ [r]) u
inductive Chain (l : List Rec) : Todo → List Rec → Todo → Prop
  | nil {s : Todo} : Chain l s [] s
  | cons {s t u : Todo} {O : List Rec} {r : Rec} (k : Step l s r t) (h : Chain l t O u) : Chain l s (r :: O) u
theorem Chain.snoc {l : List Rec} {s t u : Todo} {O : List Rec} {r : Rec} (h : Chain l s O t) (k : Step l t r u) : Chain l s (O ++ [r]) u := by
  induction h with
  | nil => exact .cons k .nil
  | cons a _ ih => exact .cons a (ih k)
theorem Steps.chain {l : List Rec} {s t : Todo} {O : List Rec} (h : Steps l s O t) : Chain l s O t := by
  induction h with
  | nil => exact .nil
  | snoc _ k ih => exact ih.snoc k
theorem Chain.one {l : List Rec} {s t t' : Todo} {O O' : List Rec} (h : Chain l s O t) (k : Chain l s O' t') (ht : t.open_ = []) (ht' : t'.open_ = []) : O = O' := by
  induction h generalizing O' with
  | @nil s =>
    cases k with
    | nil => rfl
    | cons a _ =>
      obtain ⟨T, f⟩ := s
      subst ht
      exact absurd a Step.none
  | @cons s t u O r a h ih =>
    cases k with
    | nil =>
      obtain ⟨T, f⟩ := t'
      change T = [] at ht'
      subst ht'
      exact absurd a Step.none
    | cons b k =>
      obtain ⟨rfl, rfl⟩ := a.det b
      rw [ih k ht]
/-- What restart appends is one list alone. -/
theorem Steps.one {l : List Rec} {s t t' : Todo} {O O' : List Rec} (h : Steps l s O t) (k : Steps l s O' t') (ht : t.open_ = []) (ht' : t'.open_ = []) : O = O' := h.chain.one k.chain ht ht'
theorem Steps.trans {l : List Rec} {s t u : Todo} {O O' : List Rec} (h : Steps l s O t) (k : Steps l t O' u) : Steps l s (O ++ O') u := by
  induction k with
  | nil => rw [List.append_nil]; exact h
  | snoc _ k ih => rw [← List.append_assoc]; exact .snoc ih k
/-- All units of which nothing is left end, in order. -/
def zeroO (o : Opn) : Bool := o.next == 0
def oversOf (T : List Opn) : List Rec := (T.filter zeroO).map fun o => overRec o.unit
def restO (T : List Opn) : List Opn := T.filter fun o => !zeroO o
theorem overs_steps (l : List Rec) (f : Int → List Nat) : ∀ (T U : List Opn), (∀ x ∈ U, x.next ≠ 0) → Steps l ⟨U ++ T, f⟩ (oversOf T) ⟨U ++ restO T, f⟩
  | [], U, _ => by
    simp only [oversOf, restO, List.filter_nil, List.map_nil]
    exact .nil
  | o :: T, U, hU => by
    by_cases h : o.next = 0
    · have e1 : oversOf (o :: T) = [overRec o.unit] ++ oversOf T := by simp [oversOf, zeroO, h]
      have e2 : restO (o :: T) = restO T := by simp [restO, zeroO, h]
      rw [e1, e2]
      exact Steps.trans (O := [overRec o.unit]) (.snoc .nil (.over hU h)) (overs_steps l f T U hU)
    · have e1 : oversOf (o :: T) = oversOf T := by simp [oversOf, zeroO, h]
      have e2 : U ++ restO (o :: T) = (U ++ [o]) ++ restO T := by simp [restO, zeroO, h]
      have e3 : U ++ o :: T = (U ++ [o]) ++ T := by simp
      rw [e1, e2, e3]
      exact overs_steps l f T (U ++ [o]) (fun x hx => by
        rcases List.mem_append.1 hx with h' | h'
        · exact hU x h'
        · rw [List.mem_singleton.1 h']
          exact h)
end Go.Proofs.Ytmchbciofdokfaa
