/- The specification's numbers and texts as bytes (progenyref01.number, Number, Text; progenyref03.number, text); NewReader. Records and their bytes in plain words: reading what was written, and writing what was read. Decoding and encoding in plain words: a block that is read is the block of its record, and the other way round. The block of a record is read as the record. -/
import Derived.Test.YtdccbceaajnajaaGreatT4
import Derived.Test.YtdccbceaajnajaaGreatA11
import Derived.Deep.AppendLies
namespace Go.Proofs.YtdccbceaajnajaaGreat
open Go.RowKit
set_option linter.unusedSimpArgs false
set_option linter.unusedVariables false

/-- Bytes in a row of their own. -/
def OwnBack (s : List UInt8) (w : World) (e : Ending) (w' : World) : Prop := ∃ p c, e = .returned (.slice p s.length c) ∧ w'.ownsRow w.heap.size 5 1 (.slice p s.length c) s.length (u8s s) ∧ New w w'
set_option maxHeartbeats 800000 in
theorem refnumber_any (n : Int) (w : World) (h0 : 0 ≤ n) (h1 : n ≤ 4294967295) : Calls Tryz.prog 137 #[.int .i64 n] w (OwnBack (numB n) w) := by
  have HV : Hid (u8s (numB n) = _) := hid ((u8s_bytes (numB n)).symm.trans (numB_vals n h0 h1))
  go_enter Tryz.func137, Tryz.ntmps137
  go_wp2
  go_ret
  refine ⟨some ⟨w.heap.size, 0, none⟩, 4, rfl, ?_, (New.refl w).alloc _ _⟩
  have := World.ownsRow_lit (base := w.heap.size) (e := 5) (size := 1) w #[Value.int .u8 (n / 16777216), .int .u8 (n / 65536 % 256), .int .u8 (n / 256 % 256), .int .u8 (n % 256)] 4 (Nat.le_refl _) (by decide) rfl
  rw [HV.out]
  exact this
/-- The same, with an error that is none. -/
def OwnBack2 (s : List UInt8) (w : World) (e : Ending) (w' : World) : Prop := ∃ p c, e = .returned (.tuple #[.slice p s.length c, .int .i64 0]) ∧ w'.ownsRow w.heap.size 5 1 (.slice p s.length c) s.length (u8s s) ∧ New w w'
theorem refNumberOf_any (n : Int) (w : World) (h0 : 0 ≤ n) (h1 : n ≤ 4294967295) : Calls Tryz.prog 128 #[.int .i64 n] w (OwnBack2 (numB n) w) := by
  have q1 : decide (n < 0) = false := by simp; omega
  have q2 : decide ((4294967295 : Int) < n) = false := by simp; omega
  go_enter Tryz.func128, Tryz.ntmps128
  go_wp2_with fail
  refine (refnumber_any n w h0 h1).mono ?_
  rintro e w2 ⟨p, c, rfl, ho, hn⟩
  have HO := hid ho
  clear ho
  go_wp2
  go_ret2
  exact ⟨p, c, rfl, HO.out, hn⟩
theorem num_any (n : Int) (w : World) (h0 : 0 ≤ n) (h1 : n ≤ 4294967295) : Calls Tryz.prog 102 #[.int .i64 n] w (OwnBack (numB n) w) := by
  go_enter Tryz.func102, Tryz.ntmps102
  go_wp2_with fail
  refine (refNumberOf_any n w h0 h1).mono ?_
  rintro e w2 ⟨p, c, rfl, ho, hn⟩
  have HO := hid ho
  clear ho
  go_wp2
  go_ret
  exact ⟨p, c, rfl, HO.out, hn⟩
set_option maxHeartbeats 800000 in
theorem refTextOf_any (s : ByteArray) (w : World) (h1 : s.size ≤ 255) : Calls Tryz.prog 129 #[.string s] w (OwnBack2 (textB s) w) := by
  have HV : Hid (u8s (textB s) = _) := hid ((u8s_bytes (textB s)).symm.trans (text_vals s))
  have hlen : (textB s).length = 1 + s.size := by
    show s.data.toList.length + 1 = 1 + s.data.size
    rw [Array.length_toList]; omega
  have HL := hid hlen
  clear hlen
  go_enter Tryz.func129, Tryz.ntmps129
  go_wp2_with (at_builtin; refine app_str rfl _ _ rfl w.heap.size _ 1 _ rfl (World.ownsRow_lit w #[.int .u8 s.size] 1 (Nat.le_refl _) (by decide) rfl) s rfl ?c1 ?c2 ?_)
  case c1 => omega
  case c2 => simp
  intro v' w' hown hg
  have hn : New w w' := ((New.refl w).alloc #[.int .u8 s.size] 5).grown hg (by simp) (by simp [Value.ownBlock])
  obtain ⟨g, c, rfl, _, _⟩ := hown.form (by omega)
  have HO := hid hown
  have HN := hid hn
  clear hown hg hn
  go_wp2
  go_ret2
  refine ⟨some ⟨g, 0, none⟩, c, by rw [HL.out]; rfl, ?_, HN.out⟩
  rw [HL.out, HV.out]
  have e : ((s.size % 256 : Nat) : Int) = (s.size : Int) := by omega
  rw [e]
  exact HO.out
theorem text_of_any (s : ByteArray) (w : World) (h1 : s.size ≤ 255) : Calls Tryz.prog 103 #[.string s] w (OwnBack (textB s) w) := by
  go_enter Tryz.func103, Tryz.ntmps103
  go_wp2_with fail
  refine (refTextOf_any s w h1).mono ?_
  rintro e w2 ⟨p, c, rfl, ho, hn⟩
  have HO := hid ho
  clear ho
  go_wp2
  go_ret
  exact ⟨p, c, rfl, HO.out, hn⟩

/-- A new reader of the specification's. -/
theorem refReader_any (v : Value) (l : List UInt8) (w : World) (h : Bytes w v (bytesOf l)) (hl : l.length ≤ 1000000) : Calls Tryz.prog 41 #[v] w fun e w' => ∃ x, e = .returned (.pointer (some ⟨x, 0, none⟩)) ∧ QdAt w' x (some l) ∧ New w w' ∧ w.heap.size ≤ x := by
  have H := hid h
  have HL : Hid (0 + (bytesOf l).size ≤ 140737488355328) := hid (by rw [bytesOf_size]; omega)
  clear h
  go_enter Tryz.func41, Tryz.ntmps41
  go_wp2_with (at_builtin; refine app_all rfl _ _ rfl w.heap.size _ 0 [] rfl (World.ownsRow_lit w #[] 0 (Nat.le_refl _) (by decide) rfl) v (bytesOf l) rfl (RowAt.new H.out ((New.refl w).alloc #[] 5)) HL.out ?c2 ?_)
  case c2 => simp
  intro v' w' hown hg hblk
  have hn : New w w' := ((New.refl w).alloc #[] 5).grown hg (by simp) (by simp [Value.ownBlock])
  have hc : Content w' v' (bytesOf l) := ⟨own_bytes hown rfl rfl, fun k hk => by
    rcases hown.2 with ⟨e, _⟩ | ⟨g, cap, cur, e, _, hh, _⟩
    · rw [e] at hk; simp [Value.ownBlock] at hk
    · rw [e] at hk
      simp only [Value.ownBlock, Option.some.injEq] at hk
      subst hk
      exact ⟨_, _, hh⟩⟩
  obtain ⟨p', n', c', rfl⟩ := own_slice hown
  have HC := hid hc
  have HN := hid hn
  clear hown hg hblk hc hn
  go_wp2
  go_ret
  refine ⟨w'.heap.size, rfl, ?_, HN.out.alloc _ _, HN.out.size⟩
  exact ⟨_, false, heap_alloc_new w' _, ⟨_, _, _, rfl⟩, rfl, HC.out.turn (S := fun _ => False) (Turn.of_new ((New.refl w').alloc _ _)) (apart_none _)⟩

end Go.Proofs.YtdccbceaajnajaaGreat

namespace Go.Proofs.YtdccbceaajnajaaGreat
open Go.RowKit
set_option linter.unusedSimpArgs false
set_option linter.unusedVariables false

theorem rdTake_none (n : Nat) : rdTake n none = (none, none) := rfl
theorem rdTake_app (a l : List UInt8) : rdTake a.length (some (a ++ l)) = (some a, some l) := by simp [rdTake]
theorem rdTake_some {n : Nat} {s : RS} {l : List UInt8} (h : (rdTake n s).2 = some l) : ∃ a, a.length = n ∧ s = some (a ++ l) ∧ (rdTake n s).1 = some a := by
  cases s with
  | none => cases h
  | some m =>
    simp only [rdTake] at h ⊢
    split at h
    · rename_i hle
      rw [if_pos hle]
      injection h with h
      exact ⟨m.take n, by rw [List.length_take]; omega, by rw [← h, List.take_append_drop], rfl⟩
    · cases h
theorem valB_numB (v : Int) (h0 : 0 ≤ v) (h1 : v ≤ 4294967295) : valB (numB v) = v := by
  simp only [valB, numB, List.foldl, UInt8.toNat_ofNat']
  omega
theorem numB_valB {l : List UInt8} (h : l.length = 4) : numB (valB l) = l := by
  match l, h with
  | [a, b, c, d], _ =>
    have ha := a.toNat_lt; have hb := b.toNat_lt; have hc := c.toNat_lt; have hd := d.toNat_lt
    have e : valB [a, b, c, d] = ((((a.toNat : Int) * 256 + b.toNat) * 256 + c.toNat) * 256 + d.toNat) := by simp [valB]
    rw [e]
    have f : ∀ (x : UInt8) (n : Nat), n % 256 = x.toNat → UInt8.ofNat n = x := fun x n hn => by
      apply UInt8.toNat_inj.1
      rw [UInt8.toNat_ofNat', ← hn]
    simp only [numB]
    rw [f a _ (by omega), f b _ (by omega), f c _ (by omega), f d _ (by omega)]
theorem rdNum_none : rdNum none = (0, none) := rfl
theorem rdSmall_none : rdSmall none = (0, none) := rfl
theorem rdNum_app (v : Int) (l : List UInt8) (h0 : 0 ≤ v) (h1 : v ≤ 4294967295) : rdNum (some (numB v ++ l)) = (v, some l) := by
  have e : rdTake 4 (some (numB v ++ l)) = (some (numB v), some l) := rdTake_app (numB v) l
  simp only [rdNum, e, Option.getD_some, valB_numB v h0 h1]
theorem rdNum_some {s : RS} {l : List UInt8} (h : (rdNum s).2 = some l) : s = some (numB (rdNum s).1 ++ l) := by
  obtain ⟨a, ha, hs, ht⟩ := rdTake_some (n := 4) h
  have e : (rdNum s).1 = valB a := by simp only [rdNum, ht, Option.getD_some]
  rw [e, numB_valB ha]; exact hs
theorem rdSmall_app (v : Int) (l : List UInt8) (h0 : 0 ≤ v) (h1 : v ≤ 255) : rdSmall (some (smallB v ++ l)) = (v, some l) := by
  have e : rdTake 1 (some (smallB v ++ l)) = (some (smallB v), some l) := rdTake_app (smallB v) l
  simp only [rdSmall, e, Option.getD_some]
  have : valB (smallB v) = v := by simp only [valB, smallB, List.foldl, UInt8.toNat_ofNat']; omega
  rw [this]
theorem rdSmall_some {s : RS} {l : List UInt8} (h : (rdSmall s).2 = some l) : s = some (smallB (rdSmall s).1 ++ l) := by
  obtain ⟨a, ha, hs, ht⟩ := rdTake_some (n := 1) h
  have e : (rdSmall s).1 = valB a := by simp only [rdSmall, ht, Option.getD_some]
  match a, ha with
  | [x], _ =>
    have f : smallB (valB [x]) = [x] := by simp [smallB, valB]
    rw [e, f]; exact hs
theorem textB_eq (t : ByteArray) : textB t = UInt8.ofNat t.size :: t.data.toList := rfl
theorem data_length (t : ByteArray) : t.data.toList.length = t.size := by rw [Array.length_toList]; rfl
theorem rdText_app (t : ByteArray) (l : List UInt8) (h : t.size ≤ 255) : rdText (some (textB t ++ l)) = (t, some l) := by
  rw [textB_eq, List.cons_append, rdText_cons]
  have e : (UInt8.ofNat t.size).toNat = t.size := by rw [UInt8.toNat_ofNat']; omega
  rw [e, if_pos (by rw [List.length_append, data_length]; omega)]
  have e2 : (t.data.toList ++ l).take t.size = t.data.toList := by rw [← data_length t, List.take_left']; rfl
  have e3 : (t.data.toList ++ l).drop t.size = l := by rw [← data_length t, List.drop_left']; rfl
  rw [e2, e3, bytesOf_data]
theorem rdText_some {s : RS} {l : List UInt8} (h : (rdText s).2 = some l) : s = some (textB (rdText s).1 ++ l) ∧ (rdText s).1.size ≤ 255 := by
  cases s with
  | none => cases h
  | some m =>
    cases m with
    | nil => cases h
    | cons a m =>
      rw [rdText_cons] at h ⊢
      by_cases hle : a.toNat ≤ m.length
      · rw [if_pos hle] at h ⊢
        injection h with h
        have hsz : (bytesOf (m.take a.toNat)).size = a.toNat := by rw [bytesOf_size, List.length_take]; omega
        have ha := a.toNat_lt
        refine ⟨?_, by simp only [hsz]; omega⟩
        simp only [textB_eq, hsz]
        have e : UInt8.ofNat a.toNat = a := by simp
        rw [e, ← h, List.cons_append]
        have : (bytesOf (m.take a.toNat)).data.toList = m.take a.toNat := by simp [bytesOf]
        rw [this, List.take_append_drop]
      · rw [if_neg hle] at h; cases h

/-- Some units. -/
def rdOpens : Nat → RS → List Opn × RS
  | 0, s => ([], s)
  | k + 1, s =>
    let a := rdNum s
    let b := rdNum a.2
    let c := rdText b.2
    let d := rdOpens k c.2
    (⟨a.1, b.1, c.1⟩ :: d.1, d.2)
theorem rdText_none2 : (rdText none).2 = none := rfl
theorem rdOpens_none : ∀ k, (rdOpens k none).2 = none
  | 0 => rfl
  | k + 1 => rdOpens_none k
theorem some_of_num {s : RS} {l : List UInt8} (h : (rdNum s).2 = some l) : ∃ m, s = some m := ⟨_, rdNum_some h⟩
theorem rdOpens_some : ∀ (k : Nat) (s : RS) (l : List UInt8), (rdOpens k s).2 = some l → s = some ((rdOpens k s).1.flatMap opnB ++ l) ∧ (rdOpens k s).1.length = k
  | 0, s, l, h => ⟨h, rfl⟩
  | k + 1, s, l, h => by
    have h' : (rdOpens k (rdText (rdNum (rdNum s).2).2).2).2 = some l := h
    obtain ⟨e1, e2⟩ := rdOpens_some k _ l h'
    obtain ⟨e3, _⟩ := rdText_some e1
    have e4 := rdNum_some e3
    have e5 := rdNum_some e4
    refine ⟨?_, ?_⟩
    · have e6 : (rdOpens (k + 1) s).1 = ⟨(rdNum s).1, (rdNum (rdNum s).2).1, (rdText (rdNum (rdNum s).2).2).1⟩ :: (rdOpens k (rdText (rdNum (rdNum s).2).2).2).1 := rfl
      rw [e6, List.flatMap_cons]
      simp only [opnB, List.append_assoc]
      exact e5
    · show _ + 1 = k + 1
      rw [e2]
theorem rdOpens_app : ∀ (us : List Opn) (l : List UInt8), (∀ u ∈ us, 0 ≤ u.unit ∧ u.unit ≤ 1000000 ∧ 0 ≤ u.next ∧ u.next ≤ 1000000 ∧ u.ready.size ≤ 255) → rdOpens us.length (some (us.flatMap opnB ++ l)) = (us, some l)
  | [], l, _ => rfl
  | u :: us, l, h => by
    obtain ⟨a1, a2, a3, a4, a5⟩ := h u (by simp)
    have ih := rdOpens_app us l (fun x hx => h x (by simp [hx]))
    show (let a := rdNum (some ((opnB u ++ us.flatMap opnB) ++ l)); let b := rdNum a.2; let c := rdText b.2; let d := rdOpens us.length c.2; ((⟨a.1, b.1, c.1⟩ : Opn) :: d.1, d.2)) = _
    simp only [opnB, List.append_assoc]
    rw [rdNum_app _ _ a1 (by omega)]
    simp only
    rw [rdNum_app _ _ a3 (by omega)]
    simp only
    rw [rdText_app _ _ a5]
    simp only
    rw [ih]

end Go.Proofs.YtdccbceaajnajaaGreat

namespace Go.Proofs.YtdccbceaajnajaaGreat
open Go.RowKit
set_option linter.unusedSimpArgs false
set_option linter.unusedVariables false

def recK (k u : Int) : Rec := ⟨k, u, 0, 0, ByteArray.empty, ByteArray.empty, 0, 0, ByteArray.empty, []⟩
/-- What stands behind the four parts that all records have. -/
def decRest (k u : Int) (s : RS) : Rec × RS :=
  if k = 1 then
    let p := rdNum s; let q := rdSmall p.2; let t := rdText q.2; let v := rdText t.2
    ({ recK k u with page := p.1, at_ := q.1, before := t.1, after := v.1 }, v.2)
  else if k = 2 then
    let p := rdNum s; let q := rdSmall p.2; let t := rdText q.2; let b := rdNum t.2; let n := rdNum b.2
    ({ recK k u with page := p.1, at_ := q.1, after := t.1, back := b.1, next := n.1 }, n.2)
  else if k = 5 ∨ k = 7 then
    let t := rdText s
    ({ recK k u with text := t.1 }, t.2)
  else if k = 6 then
    let m := rdSmall s; let d := rdOpens m.1.toNat m.2
    ({ recK k u with units := d.1 }, d.2)
  else (recK k u, s)
structure Dec where
  len : Int
  num : Int
  kind : Int
  unit : Int
  rest : RS
def decHead (l : List UInt8) : Dec :=
  let a := rdNum (some l); let b := rdNum a.2; let c := rdSmall b.2; let d := rdNum c.2
  ⟨a.1, b.1, c.1, d.1, d.2⟩
def decRec (l : List UInt8) : Rec × RS := decRest (decHead l).kind (decHead l).unit (decHead l).rest
/-- Is a list of bytes the block of a record? -/
def decOk (l : List UInt8) : Bool := decide ((decRec l).2 = some []) && decide ((decHead l).len = l.length) && wi 1 (decHead l).num 1000000 && validB (decRec l).1

theorem decHead_some {l m : List UInt8} (h : (decHead l).rest = some m) : l = numB (decHead l).len ++ (numB (decHead l).num ++ (smallB (decHead l).kind ++ (numB (decHead l).unit ++ m))) := by
  have h1 : (rdNum (rdSmall (rdNum (rdNum (some l)).2).2).2).2 = some m := h
  have h2 := rdNum_some h1
  have h3 := rdSmall_some h2
  have h4 := rdNum_some h3
  have h5 := rdNum_some h4
  injection h5
theorem decRest_some {k u : Int} {s : RS} {m : List UInt8} (h : (decRest k u s).2 = some m) : s = some (restB (decRest k u s).1 ++ m) := by
  by_cases h1 : k = 1
  · subst h1
    have e : decRest 1 u s = ({ recK 1 u with page := (rdNum s).1, at_ := (rdSmall (rdNum s).2).1, before := (rdText (rdSmall (rdNum s).2).2).1, after := (rdText (rdText (rdSmall (rdNum s).2).2).2).1 }, (rdText (rdText (rdSmall (rdNum s).2).2).2).2) := rfl
    rw [e] at h ⊢
    obtain ⟨a1, _⟩ := rdText_some h
    obtain ⟨a2, _⟩ := rdText_some a1
    have a3 := rdSmall_some a2
    have a4 := rdNum_some a3
    simp only [restB, recK, if_true, List.append_assoc]
    exact a4
  by_cases h2 : k = 2
  · subst h2
    have e : decRest 2 u s = ({ recK 2 u with page := (rdNum s).1, at_ := (rdSmall (rdNum s).2).1, after := (rdText (rdSmall (rdNum s).2).2).1, back := (rdNum (rdText (rdSmall (rdNum s).2).2).2).1, next := (rdNum (rdNum (rdText (rdSmall (rdNum s).2).2).2).2).1 }, (rdNum (rdNum (rdText (rdSmall (rdNum s).2).2).2).2).2) := rfl
    rw [e] at h ⊢
    have a0 := rdNum_some h
    have a1 := rdNum_some a0
    obtain ⟨a2, _⟩ := rdText_some a1
    have a3 := rdSmall_some a2
    have a4 := rdNum_some a3
    have q : ¬ (2 : Int) = 1 := by decide
    simp only [restB, recK, if_neg q, if_true, List.append_assoc]
    exact a4
  by_cases h5 : k = 5 ∨ k = 7
  · have e : decRest k u s = ({ recK k u with text := (rdText s).1 }, (rdText s).2) := by simp only [decRest, if_neg h1, if_neg h2, if_pos h5]
    rw [e] at h ⊢
    obtain ⟨a1, _⟩ := rdText_some h
    simp only [restB, recK, h1, h2, h5, if_false, if_true]
    exact a1
  by_cases h6 : k = 6
  · have e : decRest k u s = ({ recK k u with units := (rdOpens (rdSmall s).1.toNat (rdSmall s).2).1 }, (rdOpens (rdSmall s).1.toNat (rdSmall s).2).2) := by simp only [decRest, if_neg h1, if_neg h2, if_neg h5, if_pos h6]
    rw [e] at h ⊢
    obtain ⟨a1, a2⟩ := rdOpens_some _ _ _ h
    have a3 := rdSmall_some a1
    have hn : 0 ≤ (rdSmall s).1 := by simp only [rdSmall]; exact valB_nonneg _
    simp only [restB, recK, h1, h2, h5, h6, if_false, if_true, a2, List.append_assoc]
    rw [Int.toNat_of_nonneg hn]
    exact a3
  · have e : decRest k u s = (recK k u, s) := by simp only [decRest, if_neg h1, if_neg h2, if_neg h5, if_neg h6]
    rw [e] at h ⊢
    simp only [restB, recK, h1, h2, h5, h6, if_false, List.nil_append]
    exact h
theorem decRest_kind (k u : Int) (s : RS) : (decRest k u s).1.kind = k ∧ (decRest k u s).1.unit = u := by
  unfold decRest
  split
  · exact ⟨rfl, rfl⟩
  · split
    · exact ⟨rfl, rfl⟩
    · split
      · exact ⟨rfl, rfl⟩
      · split
        · exact ⟨rfl, rfl⟩
        · exact ⟨rfl, rfl⟩
/-- What is read is the block of what it says. -/
theorem dec_enc {l : List UInt8} (h : (decRec l).2 = some []) (hl : (decHead l).len = l.length) : encB (decHead l).num (decRec l).1 = l := by
  have a1 := decRest_some h
  rw [List.append_nil] at a1
  have a2 := decHead_some a1
  obtain ⟨k1, k2⟩ := decRest_kind (decHead l).kind (decHead l).unit (decHead l).rest
  have e : headB (decHead l).num (decRec l).1 ++ restB (decRec l).1 = numB (decHead l).num ++ (smallB (decHead l).kind ++ (numB (decHead l).unit ++ restB (decRec l).1)) := by
    simp only [headB, decRec, k1, k2, List.append_assoc]
  have e2 : l = numB (decHead l).len ++ (headB (decHead l).num (decRec l).1 ++ restB (decRec l).1) := by rw [e]; exact a2
  have e3 : l.length = 4 + (headB (decHead l).num (decRec l).1 ++ restB (decRec l).1).length := by
    have := congrArg List.length e2
    rw [List.length_append, numB_length] at this
    exact this
  unfold encB
  have e4 : ((4 + (headB (decHead l).num (decRec l).1 ++ restB (decRec l).1).length : Nat) : Int) = (decHead l).len := by rw [hl, e3]
  have e5 : (4 : Int) + ((headB (decHead l).num (decRec l).1 ++ restB (decRec l).1).length : Int) = (decHead l).len := by rw [← e4]; push_cast; rfl
  rw [e5]
  exact e2.symm

end Go.Proofs.YtdccbceaajnajaaGreat

namespace Go.Proofs.YtdccbceaajnajaaGreat
open Go.RowKit
set_option linter.unusedSimpArgs false
set_option linter.unusedVariables false

theorem valid_kinds {r : Rec} (hv : validB r = true) : (r.kind = 1 ∨ r.kind = 2 ∨ r.kind = 3 ∨ r.kind = 4 ∨ r.kind = 5 ∨ r.kind = 6 ∨ r.kind = 7) ∧ 0 ≤ r.unit ∧ r.unit ≤ 1000000 := by
  simp only [validB, Bool.and_eq_true, wi_iff] at hv
  obtain ⟨hu, hv⟩ := hv
  refine ⟨?_, hu⟩
  split at hv
  · omega
  split at hv
  · omega
  split at hv
  · omega
  split at hv
  · omega
  split at hv
  · omega
  split at hv
  · omega
  split at hv
  · omega
  · cases hv
theorem open_units {l : List Opn} (h : openB l = true) : l.length ≤ 8 ∧ ∀ u ∈ l, 0 ≤ u.unit ∧ u.unit ≤ 1000000 ∧ 0 ≤ u.next ∧ u.next ≤ 1000000 ∧ u.ready.size ≤ 30 := by
  simp only [openB, Bool.and_eq_true, List.all_eq_true, List.mem_range, decide_eq_true_eq] at h
  refine ⟨h.2, fun u hu => ?_⟩
  obtain ⟨i, hi, rfl⟩ := List.mem_iff_getElem.1 hu
  have := h.1 i hi
  unfold okAt at this
  rw [List.getElem?_eq_getElem hi] at this
  simp only [okU, Bool.and_eq_true, wi_iff, decide_eq_true_eq] at this
  omega
theorem empty_of {s : ByteArray} (h : s.size = 0) : s = ByteArray.empty := ByteArray.ext (Array.eq_empty_of_size_eq_zero h)
theorem decRest_app {r : Rec} (hv : validB r = true) : decRest r.kind r.unit (some (restB r)) = (r, some []) ∧ (restB r).length ≤ 100000 := by
  have hk := (valid_kinds hv).1
  have hb : ∀ t : ByteArray, (textB t).length = t.size + 1 := fun t => by rw [textB_eq, List.length_cons, data_length]
  have hs : ∀ v, (smallB v).length = 1 := fun v => rfl
  obtain ⟨k, u, pg, at', bf, af, bk, nx, tx, us⟩ := r
  simp only at hk
  rcases hk with rfl | rfl | rfl | rfl | rfl | rfl | rfl
  · obtain ⟨b1, b2, b3, b4, b5, b6, b7, b8⟩ := valid_bounds_1 rfl hv
    simp only [validB, Bool.and_eq_true, if_true, nb, nu, nt, decide_eq_true_eq] at hv
    obtain ⟨_, ⟨⟨⟨_, _⟩, h3⟩, h4⟩, h5⟩ := hv
    simp only at *
    have e5 := empty_of h5
    have e4 : us = [] := List.eq_nil_of_length_eq_zero h4
    subst e4 e5
    obtain ⟨rfl, rfl⟩ := h3
    refine ⟨?_, by simp only [restB, if_true, List.length_append, numB_length, hb, hs]; omega⟩
    have e : restB ⟨1, u, pg, at', bf, af, 0, 0, ByteArray.empty, []⟩ = numB pg ++ (smallB at' ++ (textB bf ++ (textB af ++ []))) := by simp only [restB, if_true, List.append_assoc, List.append_nil]
    rw [e]
    simp only [decRest, if_true, recK, rdNum_app _ _ b3 (show pg ≤ 4294967295 by omega), rdSmall_app _ _ b5 (show at' ≤ 255 by omega), rdText_app bf _ (by omega), rdText_app af _ (by omega)]
  · obtain ⟨b1, b2, b3, b4, b5, b6, b7, b8, b9, b10, b11⟩ := valid_bounds_2 rfl hv
    have q : ¬ (2 : Int) = 1 := by decide
    simp only [validB, Bool.and_eq_true, if_true, q, if_false, nf, nu, nt, decide_eq_true_eq] at hv
    obtain ⟨_, ⟨⟨⟨⟨_, h2⟩, _⟩, _⟩, h4⟩, h5⟩ := hv
    simp only at *
    have e5 := empty_of h5
    have e2 := empty_of h2
    have e4 : us = [] := List.eq_nil_of_length_eq_zero h4
    subst e4 e5 e2
    refine ⟨?_, by simp only [restB, if_true, q, if_false, List.length_append, numB_length, hb, hs]; omega⟩
    have e : restB ⟨2, u, pg, at', ByteArray.empty, af, bk, nx, ByteArray.empty, []⟩ = numB pg ++ (smallB at' ++ (textB af ++ (numB bk ++ (numB nx ++ [])))) := by simp only [restB, q, if_false, if_true, List.append_assoc, List.append_nil]
    rw [e]
    simp only [decRest, if_true, q, if_false, recK, rdNum_app _ _ b3 (show pg ≤ 4294967295 by omega), rdSmall_app _ _ b5 (show at' ≤ 255 by omega), rdText_app af _ (by omega), rdNum_app bk _ b8 (by omega), rdNum_app nx _ b10 (by omega)]
  · have hbd := valid_bounds_3 rfl hv
    have q1 : ¬ (3 : Int) = 1 := by decide
    have q2 : ¬ (3 : Int) = 2 := by decide
    have q5 : ¬ (3 : Int) = 5 := by decide
    have q7 : ¬ (3 : Int) = 7 := by decide
    have q6 : ¬ (3 : Int) = 6 := by decide
    simp only [validB, Bool.and_eq_true, if_true, q1, q2, if_false, np, nf, nb, nu, nt, decide_eq_true_eq] at hv
    obtain ⟨_, ⟨⟨⟨⟨⟨h1, h2⟩, h6⟩, h7⟩, h8⟩, h4⟩, h5⟩ := hv
    simp only at *
    obtain ⟨rfl, rfl⟩ := h8
    have e1 := empty_of h6
    have e2 := empty_of h7
    have e5 := empty_of h5
    have e4 : us = [] := List.eq_nil_of_length_eq_zero h4
    subst e4 e5 e2 e1 h1 h2
    refine ⟨?_, by simp only [restB, q1, q2, q5, q6, q7, or_self, if_false, List.length_nil]; omega⟩
    simp only [decRest, restB, q1, q2, q5, q6, q7, or_self, if_false, recK]
  · have hbd := valid_bounds_4 rfl hv
    have q1 : ¬ (4 : Int) = 1 := by decide
    have q2 : ¬ (4 : Int) = 2 := by decide
    have q3 : ¬ (4 : Int) = 3 := by decide
    have q5 : ¬ (4 : Int) = 5 := by decide
    have q7 : ¬ (4 : Int) = 7 := by decide
    have q6 : ¬ (4 : Int) = 6 := by decide
    simp only [validB, Bool.and_eq_true, if_true, q1, q2, q3, if_false, np, nf, nb, nu, nt, decide_eq_true_eq] at hv
    obtain ⟨_, ⟨⟨⟨⟨⟨h1, h2⟩, h6⟩, h7⟩, h8⟩, h4⟩, h5⟩ := hv
    simp only at *
    obtain ⟨rfl, rfl⟩ := h8
    have e1 := empty_of h6
    have e2 := empty_of h7
    have e5 := empty_of h5
    have e4 : us = [] := List.eq_nil_of_length_eq_zero h4
    subst e4 e5 e2 e1 h1 h2
    refine ⟨?_, by simp only [restB, q1, q2, q3, q5, q6, q7, or_self, if_false, List.length_nil]; omega⟩
    simp only [decRest, restB, q1, q2, q3, q5, q6, q7, or_self, if_false, recK]
  · have hbd := valid_bounds_5 rfl hv
    have q1 : ¬ (5 : Int) = 1 := by decide
    have q2 : ¬ (5 : Int) = 2 := by decide
    have q3 : ¬ (5 : Int) = 3 := by decide
    have q4 : ¬ (5 : Int) = 4 := by decide
    simp only [validB, Bool.and_eq_true, if_true, q1, q2, q3, q4, if_false, np, nf, nb, nu, nt, decide_eq_true_eq] at hv
    obtain ⟨_, ⟨⟨⟨⟨⟨h1, h2⟩, h6⟩, h7⟩, h8⟩, h4⟩, h5⟩ := hv
    simp only at *
    obtain ⟨rfl, rfl⟩ := h8
    have e1 := empty_of h6
    have e2 := empty_of h7
    have e4 : us = [] := List.eq_nil_of_length_eq_zero h4
    subst e4 e2 e1 h1 h2
    refine ⟨?_, by simp only [restB, q1, q2, q3, q4, or_true, true_or, if_true, if_false, hb]; omega⟩
    have e : restB ⟨5, u, 0, 0, ByteArray.empty, ByteArray.empty, 0, 0, tx, []⟩ = textB tx ++ [] := by simp only [restB, q1, q2, q3, q4, or_true, true_or, if_true, if_false, List.append_nil]
    rw [e]
    simp only [decRest, q1, q2, q3, q4, or_true, true_or, if_true, if_false, recK, rdText_app tx _ (show tx.size ≤ 255 by omega)]
  · have q1 : ¬ (6 : Int) = 1 := by decide
    have q2 : ¬ (6 : Int) = 2 := by decide
    have q3 : ¬ (6 : Int) = 3 := by decide
    have q4 : ¬ (6 : Int) = 4 := by decide
    have q5 : ¬ (6 : Int) = 5 := by decide
    have q7 : ¬ (6 : Int) = 7 := by decide
    simp only [validB, Bool.and_eq_true, if_true, q1, q2, q3, q4, q5, if_false, np, nf, nb, nu, nt, decide_eq_true_eq] at hv
    obtain ⟨_, ⟨⟨⟨⟨⟨⟨h1, h2⟩, h6⟩, h7⟩, h8⟩, h4⟩, h9⟩, h5⟩ := hv
    simp only at *
    obtain ⟨rfl, rfl⟩ := h8
    have e1 := empty_of h6
    have e2 := empty_of h7
    have e5 := empty_of h5
    subst e5 e2 e1 h1 h2 h9
    obtain ⟨hl, hus⟩ := open_units h4
    have hlen : (us.flatMap opnB).length ≤ us.length * 50 := by
      clear h4 hl
      induction us with
      | nil => simp
      | cons a us ih =>
        have ha := hus a (by simp)
        have := ih (fun x hx => hus x (by simp [hx]))
        simp only [List.flatMap_cons, List.length_append, List.length_cons, opnB, numB_length, hb]
        omega
    refine ⟨?_, by simp only [restB, q1, q2, q5, q7, or_self, if_true, if_false, List.length_append, hs]; omega⟩
    have e : restB ⟨6, 0, 0, 0, ByteArray.empty, ByteArray.empty, 0, 0, ByteArray.empty, us⟩ = smallB (us.length : Int) ++ (us.flatMap opnB ++ []) := by simp only [restB, q1, q2, q5, q7, or_self, if_true, if_false, List.append_nil]
    rw [e]
    simp only [decRest, q1, q2, q5, q7, or_self, if_true, if_false, recK, rdSmall_app (us.length : Int) _ (by omega) (by omega), Int.toNat_natCast, rdOpens_app us _ (fun x hx => by have := hus x hx; omega)]
  · have hbd := valid_bounds_7 rfl hv
    have q1 : ¬ (7 : Int) = 1 := by decide
    have q2 : ¬ (7 : Int) = 2 := by decide
    have q3 : ¬ (7 : Int) = 3 := by decide
    have q4 : ¬ (7 : Int) = 4 := by decide
    have q5 : ¬ (7 : Int) = 5 := by decide
    have q6 : ¬ (7 : Int) = 6 := by decide
    simp only [validB, Bool.and_eq_true, if_true, q1, q2, q3, q4, q5, q6, if_false, np, nf, nb, nu, nt, decide_eq_true_eq] at hv
    obtain ⟨_, ⟨⟨⟨⟨⟨h1, h2⟩, h6⟩, h7⟩, h8⟩, h4⟩, h5⟩ := hv
    simp only at *
    obtain ⟨rfl, rfl⟩ := h8
    have e1 := empty_of h6
    have e2 := empty_of h7
    have e4 : us = [] := List.eq_nil_of_length_eq_zero h4
    subst e4 e2 e1 h1 h2
    refine ⟨?_, by simp only [restB, q1, q2, q3, q4, q5, q6, or_true, true_or, if_true, if_false, hb]; omega⟩
    have e : restB ⟨7, u, 0, 0, ByteArray.empty, ByteArray.empty, 0, 0, tx, []⟩ = textB tx ++ [] := by simp only [restB, q1, q2, q3, q4, q5, q6, or_true, true_or, if_true, if_false, List.append_nil]
    rw [e]
    simp only [decRest, q1, q2, q3, q4, q5, q6, or_true, true_or, if_true, if_false, recK, rdText_app tx _ (show tx.size ≤ 255 by omega)]

/-- What was written is read as it was. -/
theorem enc_dec {r : Rec} {n : Int} (hv : validB r = true) (h1 : 1 ≤ n) (h2 : n ≤ 1000000) : decHead (encB n r) = ⟨(encB n r).length, n, r.kind, r.unit, some (restB r)⟩ ∧ decRec (encB n r) = (r, some []) := by
  obtain ⟨hk, hu1, hu2⟩ := valid_kinds hv
  obtain ⟨hr, hlen⟩ := decRest_app hv
  have hh : (headB n r).length = 9 := by simp only [headB, List.length_append, numB_length]; rfl
  have hl : ((encB n r).length : Int) = 4 + ((headB n r ++ restB r).length : Int) := by
    unfold encB
    rw [List.length_append, numB_length]; push_cast; rfl
  have hll : (headB n r ++ restB r).length ≤ 200000 := by rw [List.length_append, hh]; omega
  have e : encB n r = numB ((encB n r).length : Int) ++ (numB n ++ (smallB r.kind ++ (numB r.unit ++ restB r))) := by
    rw [hl]
    unfold encB
    simp only [headB, List.append_assoc]
  have hd : decHead (encB n r) = ⟨(encB n r).length, n, r.kind, r.unit, some (restB r)⟩ := by
    generalize hL : ((encB n r).length : Int) = L at *
    rw [e]
    simp only [decHead]
    rw [rdNum_app L _ (by omega) (by omega)]
    simp only
    rw [rdNum_app n _ (by omega) (by omega)]
    simp only
    rw [rdSmall_app r.kind _ (by omega) (by omega)]
    simp only
    rw [rdNum_app r.unit _ (by omega) (by omega)]
  refine ⟨hd, ?_⟩
  unfold decRec
  rw [hd]
  exact hr

end Go.Proofs.YtdccbceaajnajaaGreat
