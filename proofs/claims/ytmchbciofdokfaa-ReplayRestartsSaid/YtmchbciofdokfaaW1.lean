/- What records mean, in plain words: a world of units and pages, the records that may be next, and what each leaves. -/
import Derived.Test.YtmchbciofdokfaaE1
namespace Go.Proofs.Ytmchbciofdokfaa
open Go.RowKit
set_option linter.unusedSimpArgs false
set_option linter.unusedVariables false

/-- How a unit stands, its changes that are not undone, the text with which it is ready, and whether it has a record that is no note. -/
structure AU where
  st : Int
  left : List Nat
  text : ByteArray
  seen : Bool
  deriving DecidableEq
def au0 : AU := ⟨0, [], ByteArray.empty, false⟩
/-- What records make. -/
structure PW where
  recs : List Rec
  page : Nat → ByteArray
  stamp : Nat → Nat
  unit : Int → AU
  wins : List Int
def zeroPage : ByteArray := bytesOf (List.replicate 128 0)
def pw0 : PW := ⟨[], fun _ => zeroPage, fun _ => 0, fun _ => au0, []⟩
/-- The record of a number. -/
def recN (l : List Rec) (k : Nat) : Rec := (l[k - 1]?).getD rec0
/-- A part of a page. -/
def partB (p : ByteArray) (o n : Nat) : ByteArray := bytesOf ((p.data.toList.drop o).take n)
/-- A page with bytes laid in it. -/
def layB (p : ByteArray) (o : Nat) (s : ByteArray) : ByteArray := bytesOf (p.data.toList.take o ++ s.data.toList ++ p.data.toList.drop (o + s.size))
/-- The last of numbers, or 0. -/
def lastN (l : List Nat) : Nat := l.getLast?.getD 0
/-- A unit as a mark has it. -/
def openOf (n : Int) (u : AU) : Opn := ⟨n, lastN u.left, u.text⟩
/-- A unit that is open or ready, and has a record that is no note. -/
def Live (u : AU) : Prop := u.seen = true ∧ u.st ≤ 1
instance (u : AU) : Decidable (Live u) := inferInstanceAs (Decidable (_ ∧ _))
/-- The units that are open or ready, ascending. -/
def IsOpens (f : Int → AU) (l : List Opn) : Prop := (l.map (·.unit)).Pairwise (· < ·) ∧ ∀ o, o ∈ l ↔ Live (f o.unit) ∧ o = openOf o.unit (f o.unit)
/-- Two changes meet in a byte. -/
def meetB (a b : Rec) : Bool := decide (a.page = b.page) && decide (a.at_ < b.at_ + (b.after.size : Int)) && decide (b.at_ < a.at_ + (a.after.size : Int))
def Meets (W : PW) (r : Rec) : Prop := ∃ n, n ≠ r.unit ∧ (W.unit n).st ≤ 1 ∧ ∃ k ∈ (W.unit n).left, meetB (recN W.recs k) r = true
/-- An undone record undoes the last change of its unit. -/
def Undoes (W : PW) (r : Rec) : Prop := (W.unit r.unit).left ≠ [] ∧ (lastN (W.unit r.unit).left : Int) = r.back ∧ (recN W.recs (lastN (W.unit r.unit).left)).page = r.page ∧ (recN W.recs (lastN (W.unit r.unit).left)).at_ = r.at_ ∧
  (recN W.recs (lastN (W.unit r.unit).left)).before = r.after ∧ r.next = (lastN (W.unit r.unit).left.dropLast : Int)
/-- A record may be next. -/
structure Ok (W : PW) (r : Rec) : Prop where
  valid : validB r = true
  zero : r.unit = 0 → r.kind = 6 ∨ r.kind = 7
  runs : (W.unit r.unit).st ≤ 1
  ready : (W.unit r.unit).st = 1 → r.kind ≠ 1 ∧ r.kind ≠ 5
  change : r.kind = 1 → ¬ Meets W r ∧ partB (W.page r.page.toNat) r.at_.toNat r.before.size = r.before
  undone : r.kind = 2 → Undoes W r
  over : r.kind = 4 → (W.unit r.unit).left = []
  mark : r.kind = 6 → IsOpens W.unit r.units
/-- What a record makes of its unit; n: its number. -/
def touch (u : AU) (r : Rec) (n : Nat) : AU :=
  if r.kind = 1 then ⟨u.st, u.left ++ [n], u.text, true⟩
  else if r.kind = 2 then ⟨u.st, u.left.dropLast, u.text, true⟩
  else if r.kind = 3 then ⟨2, u.left, u.text, true⟩
  else if r.kind = 4 then ⟨3, u.left, u.text, true⟩
  else if r.kind = 5 then ⟨1, u.left, r.text, true⟩
  else u
def lays (r : Rec) : Bool := decide (r.kind = 1) || decide (r.kind = 2)
/-- What a record leaves. -/
def next (W : PW) (r : Rec) : PW where
  recs := W.recs ++ [r]
  page := fun p => if lays r = true ∧ p = r.page.toNat then layB (W.page p) r.at_.toNat r.after else W.page p
  stamp := fun p => if lays r = true ∧ p = r.page.toNat then W.recs.length + 1 else W.stamp p
  unit := fun n => if n = r.unit then touch (W.unit n) r (W.recs.length + 1) else W.unit n
  wins := if r.kind = 3 then W.wins ++ [r.unit] else W.wins
/-- The committed units, in order. -/
def winsOf (l : List Rec) : List Int := (l.filter fun r => decide (r.kind = 3)).map (·.unit)
open Classical in
/-- What records make, if they are sound. -/
noncomputable def walkW (l : List Rec) : Option PW := l.foldl (fun o r => o.bind fun W => if Ok W r then some (next W r) else none) (some pw0)
theorem walk_nil : walkW [] = some pw0 := rfl
open Classical in
theorem walk_snoc (l : List Rec) (r : Rec) : walkW (l ++ [r]) = (walkW l).bind fun W => if Ok W r then some (next W r) else none := by
  unfold walkW
  rw [List.foldl_append]
  rfl
theorem walk_yes {l : List Rec} {W : PW} {r : Rec} (h : walkW l = some W) (ho : Ok W r) : walkW (l ++ [r]) = some (next W r) := by
  rw [walk_snoc, h, Option.bind_some, if_pos ho]
theorem walk_no {l : List Rec} {W : PW} {r : Rec} (h : walkW l = some W) (ho : ¬ Ok W r) : walkW (l ++ [r]) = none := by
  rw [walk_snoc, h, Option.bind_some, if_neg ho]
theorem walk_none {l : List Rec} (h : walkW l = none) (m : List Rec) : walkW (l ++ m) = none := by
  induction m generalizing l with
  | nil => rw [List.append_nil]; exact h
  | cons r m ih =>
    have : l ++ r :: m = (l ++ [r]) ++ m := by simp
    rw [this]
    refine ih ?_
    rw [walk_snoc, h]
    rfl
theorem walk_take_none {l : List Rec} {k : Nat} (h : walkW (l.take k) = none) : walkW l = none := by
  have := walk_none h (l.drop k)
  rwa [List.take_append_drop] at this
theorem walk_back {l : List Rec} {W : PW} {r : Rec} (h : walkW (l ++ [r]) = some W) : ∃ V, walkW l = some V ∧ Ok V r ∧ W = next V r := by
  rw [walk_snoc] at h
  cases hl : walkW l with
  | none => rw [hl] at h; cases h
  | some V =>
    rw [hl, Option.bind_some] at h
    split at h
    · rename_i ho
      injection h with h
      exact ⟨V, rfl, ho, h.symm⟩
    · cases h

/-- What holds of the world of sound records. -/
structure Good (l : List Rec) (W : PW) : Prop where
  recs : W.recs = l
  zero : W.unit 0 = au0
  unseen : ∀ n, (W.unit n).seen = false → W.unit n = au0
  range : ∀ n, (W.unit n).seen = true → 1 ≤ n ∧ n ≤ 1000000
  st : ∀ n, 0 ≤ (W.unit n).st ∧ (W.unit n).st ≤ 3
  text : ∀ n, (W.unit n).text.size ≤ 30
  left : ∀ n, ∀ k ∈ (W.unit n).left, 1 ≤ k ∧ k ≤ l.length ∧ (recN l k).kind = 1 ∧ (recN l k).unit = n ∧ validB (recN l k) = true
  sorted : ∀ n, (W.unit n).left.Pairwise (· < ·)
  page : ∀ p, (W.page p).size = 128
  stamp : ∀ p, W.stamp p ≤ l.length
  wins : W.wins = winsOf l
theorem valid_place {r : Rec} (h : validB r = true) (hk : lays r = true) : placeB r = true := by
  unfold validB at h
  unfold lays at hk
  simp only [Bool.or_eq_true, decide_eq_true_eq] at hk
  rcases hk with hk | hk
  · simp only [hk] at h
    simp only [if_true, Bool.and_eq_true] at h
    exact h.2.1.1.1.1
  · simp only [hk] at h
    simp only [show ¬ ((2 : Int) = 1) by decide, if_false, if_true, Bool.and_eq_true] at h
    exact h.2.1.1.1.1.1
theorem recN_snoc {l : List Rec} {r : Rec} {k : Nat} (h1 : 1 ≤ k) (h2 : k ≤ l.length) : recN (l ++ [r]) k = recN l k := by
  unfold recN
  rw [List.getElem?_append_left (by omega)]
theorem recN_last (l : List Rec) (r : Rec) : recN (l ++ [r]) (l.length + 1) = r := by
  unfold recN
  simp
theorem bytesOf_len (l : List UInt8) : (bytesOf l).size = l.length := bytesOf_size l
theorem data_len (s : ByteArray) : s.data.toList.length = s.size := by rw [← bytesOf_size s.data.toList, bytesOf_data]
theorem layB_size {p s : ByteArray} {o : Nat} (h : o + s.size ≤ p.size) : (layB p o s).size = p.size := by
  unfold layB
  rw [bytesOf_size]
  simp only [List.length_append, List.length_take, List.length_drop, data_len]
  omega
theorem place_bounds {r : Rec} (h : placeB r = true) : 0 ≤ r.page ∧ r.page < 120 ∧ 0 ≤ r.at_ ∧ r.at_ < 128 ∧ 1 ≤ r.after.size ∧ r.at_.toNat + r.after.size ≤ 128 := by
  unfold placeB at h
  simp only [Bool.and_eq_true, wi_iff] at h
  omega
theorem touch_cases (u : AU) (r : Rec) (n : Nat) : touch u r n = u ∨ (touch u r n).seen = true := by
  unfold touch
  repeat' split
  all_goals first
    | exact .inr rfl
    | exact .inl rfl
theorem valid_unit {r : Rec} (h : validB r = true) : 0 ≤ r.unit ∧ r.unit ≤ 1000000 := by
  unfold validB at h
  rw [Bool.and_eq_true, wi_iff] at h
  exact h.1
theorem valid_kind {r : Rec} (h : validB r = true) : r.kind = 1 ∨ r.kind = 2 ∨ r.kind = 3 ∨ r.kind = 4 ∨ r.kind = 5 ∨ r.kind = 6 ∨ r.kind = 7 := by
  unfold validB at h
  rw [Bool.and_eq_true] at h
  replace h := h.2
  by_cases h1 : r.kind = 1; · exact .inl h1
  by_cases h2 : r.kind = 2; · exact .inr (.inl h2)
  by_cases h3 : r.kind = 3; · exact .inr (.inr (.inl h3))
  by_cases h4 : r.kind = 4; · exact .inr (.inr (.inr (.inl h4)))
  by_cases h5 : r.kind = 5; · exact .inr (.inr (.inr (.inr (.inl h5))))
  by_cases h6 : r.kind = 6; · exact .inr (.inr (.inr (.inr (.inr (.inl h6)))))
  by_cases h7 : r.kind = 7; · exact .inr (.inr (.inr (.inr (.inr (.inr h7)))))
  rw [if_neg h1, if_neg h2, if_neg h3, if_neg h4, if_neg h5, if_neg h6, if_neg h7] at h
  cases h
theorem valid_text {r : Rec} (h : validB r = true) (hk : r.kind = 5) : r.text.size ≤ 30 := by
  unfold validB at h
  simp only [hk] at h
  simp [wi_iff] at h
  omega
theorem valid_zero {r : Rec} (h : validB r = true) (hk : r.kind = 6) : r.unit = 0 := by
  unfold validB at h
  simp only [hk] at h
  simp at h
  exact h.2.1.2
theorem touch_note {u : AU} {r : Rec} {n : Nat} (h : r.kind = 6 ∨ r.kind = 7) : touch u r n = u := by
  unfold touch
  rcases h with h | h <;> simp [h]
theorem good_new : Good [] pw0 := by
  refine ⟨rfl, rfl, fun _ _ => rfl, fun n h => (by cases h), fun n => ⟨by simp [pw0, au0], by simp [pw0, au0]⟩, fun n => by show ByteArray.empty.size ≤ 30; decide, fun n k hk => (by cases hk), fun n => List.Pairwise.nil, fun p => ?_, fun p => Nat.le_refl _, rfl⟩
  show zeroPage.size = 128
  unfold zeroPage
  rw [bytesOf_size, List.length_replicate]
theorem good_next {l : List Rec} {W : PW} {r : Rec} (G : Good l W) (h : Ok W r) : Good (l ++ [r]) (next W r) := by
  have hv := h.valid
  have hu := valid_unit hv
  have hR := G.recs
  have key : ∀ n, (next W r).unit n = if n = r.unit then touch (W.unit n) r (W.recs.length + 1) else W.unit n := fun n => rfl
  have old : ∀ n, ∀ k ∈ (W.unit n).left, 1 ≤ k ∧ k ≤ (l ++ [r]).length ∧ (recN (l ++ [r]) k).kind = 1 ∧ (recN (l ++ [r]) k).unit = n ∧ validB (recN (l ++ [r]) k) = true := fun n k hk => by
    obtain ⟨h1, h2, h3, h4, h5⟩ := G.left n k hk
    rw [recN_snoc h1 h2]
    exact ⟨h1, by rw [List.length_append]; simp; omega, h3, h4, h5⟩
  have hz : r.unit = 0 → touch (W.unit r.unit) r (W.recs.length + 1) = W.unit r.unit := fun h0 => touch_note (h.zero h0)
  refine ⟨by show W.recs ++ [r] = _; rw [hR], ?_, fun n hn => ?_, fun n hn => ?_, fun n => ?_, fun n => ?_, fun n => ?_, fun n => ?_, fun p => ?_, fun p => ?_, ?_⟩
  · rw [key]
    by_cases h0 : (0 : Int) = r.unit
    · rw [if_pos h0, h0, hz h0.symm, ← h0]
      exact G.zero
    · rw [if_neg h0]
      exact G.zero
  · rw [key] at hn ⊢
    split at hn
    · rename_i e
      rw [if_pos e]
      rcases touch_cases (W.unit n) r (W.recs.length + 1) with ht | ht
      · rw [ht] at hn ⊢
        exact G.unseen n hn
      · rw [ht] at hn
        cases hn
    · rename_i e
      rw [if_neg e]
      exact G.unseen n hn
  · rw [key] at hn
    split at hn
    · rename_i e
      rcases touch_cases (W.unit n) r (W.recs.length + 1) with ht | ht
      · rw [ht] at hn
        exact G.range n hn
      · by_cases h0 : r.unit = 0
        · rw [e, hz h0] at hn
          rw [e]
          exact G.range _ hn
        · omega
    · exact G.range n hn
  · rw [key]
    have := G.st n
    split
    · unfold touch
      repeat' split
      all_goals first
        | exact this
        | exact ⟨(by decide : (0 : Int) ≤ 2), (by decide : (2 : Int) ≤ 3)⟩
        | exact ⟨(by decide : (0 : Int) ≤ 3), (by decide : (3 : Int) ≤ 3)⟩
        | exact ⟨(by decide : (0 : Int) ≤ 1), (by decide : (1 : Int) ≤ 3)⟩
    · exact this
  · rw [key]
    have := G.text n
    split
    · unfold touch
      repeat' split
      all_goals first
        | exact this
        | exact valid_text hv (by assumption)
    · exact this
  · rw [key]
    intro k hk
    split at hk
    · rename_i e
      unfold touch at hk
      split at hk
      · rename_i hk1
        rw [List.mem_append, List.mem_singleton] at hk
        rcases hk with hk | rfl
        · exact old n k hk
        · rw [hR, recN_last]
          exact ⟨by omega, by simp, hk1, e.symm, hv⟩
      · split at hk
        · exact old n k ((List.dropLast_sublist _).subset hk)
        · repeat' split at hk
          all_goals exact old n k hk
    · exact old n k hk
  · rw [key]
    have := G.sorted n
    split
    · unfold touch
      split
      · refine List.pairwise_append.2 ⟨this, List.pairwise_singleton _ _, fun a ha b hb => ?_⟩
        rw [List.mem_singleton] at hb
        have := (G.left n a ha).2.1
        rw [hb, hR]
        omega
      · split
        · exact List.Pairwise.sublist (List.dropLast_sublist _) this
        · repeat' split
          all_goals exact this
    · exact this
  · show (if lays r = true ∧ p = r.page.toNat then layB (W.page p) r.at_.toNat r.after else W.page p).size = 128
    split
    · rename_i hl
      obtain ⟨_, _, _, _, _, hb⟩ := place_bounds (valid_place hv hl.1)
      rw [layB_size (by rw [G.page]; exact hb)]
      exact G.page p
    · exact G.page p
  · show (if lays r = true ∧ p = r.page.toNat then W.recs.length + 1 else W.stamp p) ≤ _
    have := G.stamp p
    rw [List.length_append, List.length_singleton, hR]
    split <;> omega
  · show (if r.kind = 3 then W.wins ++ [r.unit] else W.wins) = _
    unfold winsOf
    rw [List.filter_append, List.map_append, G.wins]
    unfold winsOf
    split
    · rename_i h3
      simp [h3]
    · rename_i h3
      simp [h3]
theorem snoc_ind {α : Type} {p : List α → Prop} (h0 : p []) (h1 : ∀ l a, p l → p (l ++ [a])) : ∀ l, p l := fun l => by
  have h : ∀ m : List α, p m.reverse := fun m => by
    induction m with
    | nil => exact h0
    | cons a m ih => rw [List.reverse_cons]; exact h1 _ _ ih
  have := h l.reverse
  rwa [List.reverse_reverse] at this
theorem good {l : List Rec} : ∀ {W : PW}, walkW l = some W → Good l W := by
  refine snoc_ind (p := fun l => ∀ {W : PW}, walkW l = some W → Good l W) ?_ ?_ l
  · intro W h
    rw [walk_nil] at h
    injection h with h
    rw [← h]
    exact good_new
  · intro l r ih W h
    obtain ⟨V, hV, ho, rfl⟩ := walk_back h
    exact good_next (ih hV) ho
theorem opens_one {f : Int → AU} {l m : List Opn} (h : IsOpens f l) (k : IsOpens f m) : l = m := by
  have mem : ∀ o, o ∈ l ↔ o ∈ m := fun o => (h.2 o).trans (k.2 o).symm
  have hs := h.1
  have ks := k.1
  clear h k
  induction l generalizing m with
  | nil =>
    cases m with
    | nil => rfl
    | cons b m => exact absurd ((mem b).2 (by simp)) (by simp)
  | cons a l ih =>
    cases m with
    | nil => exact absurd ((mem a).1 (by simp)) (by simp)
    | cons b m =>
      rw [List.map_cons, List.pairwise_cons] at hs ks
      have hab : a = b := by
        rcases List.mem_cons.1 ((mem a).1 (by simp)) with h | h
        · exact h
        · rcases List.mem_cons.1 ((mem b).2 (by simp)) with h2 | h2
          · exact h2.symm
          · have h3 := ks.1 a.unit (List.mem_map_of_mem h)
            have h4 := hs.1 b.unit (List.mem_map_of_mem h2)
            omega
      subst hab
      rw [ih (m := m) (fun o => ?_) hs.2 ks.2]
      have ho := mem o
      rw [List.mem_cons, List.mem_cons] at ho
      constructor
      · intro hm
        rcases ho.1 (.inr hm) with rfl | h
        · have := hs.1 o.unit (List.mem_map_of_mem hm)
          omega
        · exact h
      · intro hm
        rcases ho.2 (.inr hm) with rfl | h
        · have := ks.1 o.unit (List.mem_map_of_mem hm)
          omega
        · exact h
end Go.Proofs.Ytmchbciofdokfaa
