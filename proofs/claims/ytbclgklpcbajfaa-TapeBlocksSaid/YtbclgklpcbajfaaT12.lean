/- Decoding and encoding in plain words: a block that is read is the block of its record, and the other way round. -/
import Derived.Test.YtbclgklpcbajfaaT11
namespace Go.Proofs.Ytbclgklpcbajfaa
open Go.RowKit
set_option linter.unusedSimpArgs false
set_option linter.unusedVariables false

def recK (k u : Int) : Rec := ⟨k, u, 0, 0, ByteArray.empty, ByteArray.empty, 0, 0, ByteArray.empty, []⟩
/-- What stands behind the four parts that all records have. -/
def decRest (k u : Int) (s : RS) : Rec × RS :=
  if k = 1 then
    let p := rdNum s; let q := rdSmall p.2; let t := rdText q.2; let v := rdText t.2
    ({ recK k u with page := p.1, at_ := q.1, before := t.1, after := v.1 }, v.2)
  else if k = 2 then
    let p := rdNum s; let q := rdSmall p.2; let t := rdText q.2; let b := rdNum t.2; let n := rdNum b.2
    ({ recK k u with page := p.1, at_ := q.1, after := t.1, back := b.1, next := n.1 }, n.2)
  else if k = 5 ∨ k = 7 then
    let t := rdText s
    ({ recK k u with text := t.1 }, t.2)
  else if k = 6 then
    let m := rdSmall s; let d := rdOpens m.1.toNat m.2
    ({ recK k u with units := d.1 }, d.2)
  else (recK k u, s)
structure Dec where
  len : Int
  num : Int
  kind : Int
  unit : Int
  rest : RS
def decHead (l : List UInt8) : Dec :=
  let a := rdNum (some l); let b := rdNum a.2; let c := rdSmall b.2; let d := rdNum c.2
  ⟨a.1, b.1, c.1, d.1, d.2⟩
def decRec (l : List UInt8) : Rec × RS := decRest (decHead l).kind (decHead l).unit (decHead l).rest
/-- Is a list of bytes the block of a record? -/
def decOk (l : List UInt8) : Bool := decide ((decRec l).2 = some []) && decide ((decHead l).len = l.length) && wi 1 (decHead l).num 1000000 && validB (decRec l).1

theorem decHead_some {l m : List UInt8} (h : (decHead l).rest = some m) : l = numB (decHead l).len ++ (numB (decHead l).num ++ (smallB (decHead l).kind ++ (numB (decHead l).unit ++ m))) := by
  have h1 : (rdNum (rdSmall (rdNum (rdNum (some l)).2).2).2).2 = some m := h
  have h2 := rdNum_some h1
  have h3 := rdSmall_some h2
  have h4 := rdNum_some h3
  have h5 := rdNum_some h4
  injection h5
theorem decRest_some {k u : Int} {s : RS} {m : List UInt8} (h : (decRest k u s).2 = some m) : s = some (restB (decRest k u s).1 ++ m) := by
  by_cases h1 : k = 1
  · subst h1
    have e : decRest 1 u s = ({ recK 1 u with page := (rdNum s).1, at_ := (rdSmall (rdNum s).2).1, before := (rdText (rdSmall (rdNum s).2).2).1, after := (rdText (rdText (rdSmall (rdNum s).2).2).2).1 }, (rdText (rdText (rdSmall (rdNum s).2).2).2).2) := rfl
    rw [e] at h ⊢
    obtain ⟨a1, _⟩ := rdText_some h
    obtain ⟨a2, _⟩ := rdText_some a1
    have a3 := rdSmall_some a2
    have a4 := rdNum_some a3
    simp only [restB, recK, if_true, List.append_assoc]
    exact a4
  by_cases h2 : k = 2
  · subst h2
    have e : decRest 2 u s = ({ recK 2 u with page := (rdNum s).1, at_ := (rdSmall (rdNum s).2).1, after := (rdText (rdSmall (rdNum s).2).2).1, back := (rdNum (rdText (rdSmall (rdNum s).2).2).2).1, next := (rdNum (rdNum (rdText (rdSmall (rdNum s).2).2).2).2).1 }, (rdNum (rdNum (rdText (rdSmall (rdNum s).2).2).2).2).2) := rfl
    rw [e] at h ⊢
    have a0 := rdNum_some h
    have a1 := rdNum_some a0
    obtain ⟨a2, _⟩ := rdText_some a1
    have a3 := rdSmall_some a2
    have a4 := rdNum_some a3
    have q : ¬ (2 : Int) = 1 := by decide
    simp only [restB, recK, if_neg q, if_true, List.append_assoc]
    exact a4
  by_cases h5 : k = 5 ∨ k = 7
  · have e : decRest k u s = ({ recK k u with text := (rdText s).1 }, (rdText s).2) := by simp only [decRest, if_neg h1, if_neg h2, if_pos h5]
    rw [e] at h ⊢
    obtain ⟨a1, _⟩ := rdText_some h
    simp only [restB, recK, h1, h2, h5, if_false, if_true]
    exact a1
  by_cases h6 : k = 6
  · have e : decRest k u s = ({ recK k u with units := (rdOpens (rdSmall s).1.toNat (rdSmall s).2).1 }, (rdOpens (rdSmall s).1.toNat (rdSmall s).2).2) := by simp only [decRest, if_neg h1, if_neg h2, if_neg h5, if_pos h6]
    rw [e] at h ⊢
    obtain ⟨a1, a2⟩ := rdOpens_some _ _ _ h
    have a3 := rdSmall_some a1
    have hn : 0 ≤ (rdSmall s).1 := by simp only [rdSmall]; exact valB_nonneg _
    simp only [restB, recK, h1, h2, h5, h6, if_false, if_true, a2, List.append_assoc]
    rw [Int.toNat_of_nonneg hn]
    exact a3
  · have e : decRest k u s = (recK k u, s) := by simp only [decRest, if_neg h1, if_neg h2, if_neg h5, if_neg h6]
    rw [e] at h ⊢
    simp only [restB, recK, h1, h2, h5, h6, if_false, List.nil_append]
    exact h
theorem decRest_kind (k u : Int) (s : RS) : (decRest k u s).1.kind = k ∧ (decRest k u s).1.unit = u := by
  unfold decRest
  split
  · exact ⟨rfl, rfl⟩
  · split
    · exact ⟨rfl, rfl⟩
    · split
      · exact ⟨rfl, rfl⟩
      · split
        · exact ⟨rfl, rfl⟩
        · exact ⟨rfl, rfl⟩
/-- What is read is the block of what it says. -/
theorem dec_enc {l : List UInt8} (h : (decRec l).2 = some []) (hl : (decHead l).len = l.length) : encB (decHead l).num (decRec l).1 = l := by
  have a1 := decRest_some h
  rw [List.append_nil] at a1
  have a2 := decHead_some a1
  obtain ⟨k1, k2⟩ := decRest_kind (decHead l).kind (decHead l).unit (decHead l).rest
  have e : headB (decHead l).num (decRec l).1 ++ restB (decRec l).1 = numB (decHead l).num ++ (smallB (decHead l).kind ++ (numB (decHead l).unit ++ restB (decRec l).1)) := by
    simp only [headB, decRec, k1, k2, List.append_assoc]
  have e2 : l = numB (decHead l).len ++ (headB (decHead l).num (decRec l).1 ++ restB (decRec l).1) := by rw [e]; exact a2
  have e3 : l.length = 4 + (headB (decHead l).num (decRec l).1 ++ restB (decRec l).1).length := by
    have := congrArg List.length e2
    rw [List.length_append, numB_length] at this
    exact this
  unfold encB
  have e4 : ((4 + (headB (decHead l).num (decRec l).1 ++ restB (decRec l).1).length : Nat) : Int) = (decHead l).len := by rw [hl, e3]
  have e5 : (4 : Int) + ((headB (decHead l).num (decRec l).1 ++ restB (decRec l).1).length : Int) = (decHead l).len := by rw [← e4]; push_cast; rfl
  rw [e5]
  exact e2.symm

end Go.Proofs.Ytbclgklpcbajfaa
