/- Records and their bytes in plain words: reading what was written, and writing what was read. -/
import Derived.Test.YtbclgklpcbajfaaT7
namespace Go.Proofs.Ytbclgklpcbajfaa
open Go.RowKit
set_option linter.unusedSimpArgs false
set_option linter.unusedVariables false

theorem rdTake_none (n : Nat) : rdTake n none = (none, none) := rfl
theorem rdTake_app (a l : List UInt8) : rdTake a.length (some (a ++ l)) = (some a, some l) := by simp [rdTake]
theorem rdTake_some {n : Nat} {s : RS} {l : List UInt8} (h : (rdTake n s).2 = some l) : ∃ a, a.length = n ∧ s = some (a ++ l) ∧ (rdTake n s).1 = some a := by
  cases s with
  | none => cases h
  | some m =>
    simp only [rdTake] at h ⊢
    split at h
    · rename_i hle
      rw [if_pos hle]
      injection h with h
      exact ⟨m.take n, by rw [List.length_take]; omega, by rw [← h, List.take_append_drop], rfl⟩
    · cases h
theorem valB_numB (v : Int) (h0 : 0 ≤ v) (h1 : v ≤ 4294967295) : valB (numB v) = v := by
  simp only [valB, numB, List.foldl, UInt8.toNat_ofNat']
  omega
theorem numB_valB {l : List UInt8} (h : l.length = 4) : numB (valB l) = l := by
  match l, h with
  | [a, b, c, d], _ =>
    have ha := a.toNat_lt; have hb := b.toNat_lt; have hc := c.toNat_lt; have hd := d.toNat_lt
    have e : valB [a, b, c, d] = ((((a.toNat : Int) * 256 + b.toNat) * 256 + c.toNat) * 256 + d.toNat) := by simp [valB]
    rw [e]
    have f : ∀ (x : UInt8) (n : Nat), n % 256 = x.toNat → UInt8.ofNat n = x := fun x n hn => by
      apply UInt8.toNat_inj.1
      rw [UInt8.toNat_ofNat', ← hn]
    simp only [numB]
    rw [f a _ (by omega), f b _ (by omega), f c _ (by omega), f d _ (by omega)]
theorem rdNum_none : rdNum none = (0, none) := rfl
theorem rdSmall_none : rdSmall none = (0, none) := rfl
theorem rdNum_app (v : Int) (l : List UInt8) (h0 : 0 ≤ v) (h1 : v ≤ 4294967295) : rdNum (some (numB v ++ l)) = (v, some l) := by
  have e : rdTake 4 (some (numB v ++ l)) = (some (numB v), some l) := rdTake_app (numB v) l
  simp only [rdNum, e, Option.getD_some, valB_numB v h0 h1]
theorem rdNum_some {s : RS} {l : List UInt8} (h : (rdNum s).2 = some l) : s = some (numB (rdNum s).1 ++ l) := by
  obtain ⟨a, ha, hs, ht⟩ := rdTake_some (n := 4) h
  have e : (rdNum s).1 = valB a := by simp only [rdNum, ht, Option.getD_some]
  rw [e, numB_valB ha]; exact hs
theorem rdSmall_app (v : Int) (l : List UInt8) (h0 : 0 ≤ v) (h1 : v ≤ 255) : rdSmall (some (smallB v ++ l)) = (v, some l) := by
  have e : rdTake 1 (some (smallB v ++ l)) = (some (smallB v), some l) := rdTake_app (smallB v) l
  simp only [rdSmall, e, Option.getD_some]
  have : valB (smallB v) = v := by simp only [valB, smallB, List.foldl, UInt8.toNat_ofNat']; omega
  rw [this]
theorem rdSmall_some {s : RS} {l : List UInt8} (h : (rdSmall s).2 = some l) : s = some (smallB (rdSmall s).1 ++ l) := by
  obtain ⟨a, ha, hs, ht⟩ := rdTake_some (n := 1) h
  have e : (rdSmall s).1 = valB a := by simp only [rdSmall, ht, Option.getD_some]
  match a, ha with
  | [x], _ =>
    have f : smallB (valB [x]) = [x] := by simp [smallB, valB]
    rw [e, f]; exact hs
theorem textB_eq (t : ByteArray) : textB t = UInt8.ofNat t.size :: t.data.toList := rfl
theorem data_length (t : ByteArray) : t.data.toList.length = t.size := by rw [Array.length_toList]; rfl
theorem rdText_app (t : ByteArray) (l : List UInt8) (h : t.size ≤ 255) : rdText (some (textB t ++ l)) = (t, some l) := by
  rw [textB_eq, List.cons_append, rdText_cons]
  have e : (UInt8.ofNat t.size).toNat = t.size := by rw [UInt8.toNat_ofNat']; omega
  rw [e, if_pos (by rw [List.length_append, data_length]; omega)]
  have e2 : (t.data.toList ++ l).take t.size = t.data.toList := by rw [← data_length t, List.take_left']; rfl
  have e3 : (t.data.toList ++ l).drop t.size = l := by rw [← data_length t, List.drop_left']; rfl
  rw [e2, e3, bytesOf_data]
theorem rdText_some {s : RS} {l : List UInt8} (h : (rdText s).2 = some l) : s = some (textB (rdText s).1 ++ l) ∧ (rdText s).1.size ≤ 255 := by
  cases s with
  | none => cases h
  | some m =>
    cases m with
    | nil => cases h
    | cons a m =>
      rw [rdText_cons] at h ⊢
      by_cases hle : a.toNat ≤ m.length
      · rw [if_pos hle] at h ⊢
        injection h with h
        have hsz : (bytesOf (m.take a.toNat)).size = a.toNat := by rw [bytesOf_size, List.length_take]; omega
        have ha := a.toNat_lt
        refine ⟨?_, by simp only [hsz]; omega⟩
        simp only [textB_eq, hsz]
        have e : UInt8.ofNat a.toNat = a := by simp
        rw [e, ← h, List.cons_append]
        have : (bytesOf (m.take a.toNat)).data.toList = m.take a.toNat := by simp [bytesOf]
        rw [this, List.take_append_drop]
      · rw [if_neg hle] at h; cases h

/-- Some units. -/
def rdOpens : Nat → RS → List Opn × RS
  | 0, s => ([], s)
  | k + 1, s =>
    let a := rdNum s
    let b := rdNum a.2
    let c := rdText b.2
    let d := rdOpens k c.2
    (⟨a.1, b.1, c.1⟩ :: d.1, d.2)
theorem rdText_none2 : (rdText none).2 = none := rfl
theorem rdOpens_none : ∀ k, (rdOpens k none).2 = none
  | 0 => rfl
  | k + 1 => rdOpens_none k
theorem some_of_num {s : RS} {l : List UInt8} (h : (rdNum s).2 = some l) : ∃ m, s = some m := ⟨_, rdNum_some h⟩
theorem rdOpens_some : ∀ (k : Nat) (s : RS) (l : List UInt8), (rdOpens k s).2 = some l → s = some ((rdOpens k s).1.flatMap opnB ++ l) ∧ (rdOpens k s).1.length = k
  | 0, s, l, h => ⟨h, rfl⟩
  | k + 1, s, l, h => by
    have h' : (rdOpens k (rdText (rdNum (rdNum s).2).2).2).2 = some l := h
    obtain ⟨e1, e2⟩ := rdOpens_some k _ l h'
    obtain ⟨e3, _⟩ := rdText_some e1
    have e4 := rdNum_some e3
    have e5 := rdNum_some e4
    refine ⟨?_, ?_⟩
    · have e6 : (rdOpens (k + 1) s).1 = ⟨(rdNum s).1, (rdNum (rdNum s).2).1, (rdText (rdNum (rdNum s).2).2).1⟩ :: (rdOpens k (rdText (rdNum (rdNum s).2).2).2).1 := rfl
      rw [e6, List.flatMap_cons]
      simp only [opnB, List.append_assoc]
      exact e5
    · show _ + 1 = k + 1
      rw [e2]
theorem rdOpens_app : ∀ (us : List Opn) (l : List UInt8), (∀ u ∈ us, 0 ≤ u.unit ∧ u.unit ≤ 1000000 ∧ 0 ≤ u.next ∧ u.next ≤ 1000000 ∧ u.ready.size ≤ 255) → rdOpens us.length (some (us.flatMap opnB ++ l)) = (us, some l)
  | [], l, _ => rfl
  | u :: us, l, h => by
    obtain ⟨a1, a2, a3, a4, a5⟩ := h u (by simp)
    have ih := rdOpens_app us l (fun x hx => h x (by simp [hx]))
    show (let a := rdNum (some ((opnB u ++ us.flatMap opnB) ++ l)); let b := rdNum a.2; let c := rdText b.2; let d := rdOpens us.length c.2; ((⟨a.1, b.1, c.1⟩ : Opn) :: d.1, d.2)) = _
    simp only [opnB, List.append_assoc]
    rw [rdNum_app _ _ a1 (by omega)]
    simp only
    rw [rdNum_app _ _ a3 (by omega)]
    simp only
    rw [rdText_app _ _ a5]
    simp only
    rw [ih]

end Go.Proofs.Ytbclgklpcbajfaa
