/- octet.Reader: Small, Number, Text, Bad, Done, NewReader. -/
import Derived.Test.YtdccbceaajnajaaT1
import Derived.Laws.BitsLemmas
namespace Go.Proofs.Ytdccbceaajnajaa
open Go.RowKit
set_option linter.unusedSimpArgs false
set_option linter.unusedVariables false

theorem snocI {α : Type} {P : List α → Prop} (h0 : P []) (h1 : ∀ l p, P l → P (l ++ [p])) (l : List α) : P l := by
  have : ∀ n (l : List α), l.length = n → P l := by
    intro n
    induction n with
    | zero => intro l hl; rw [List.eq_nil_of_length_eq_zero hl]; exact h0
    | succ n ih =>
      intro l hl
      have hne : l ≠ [] := by intro e; subst e; simp at hl
      rw [← List.dropLast_concat_getLast hne]
      exact h1 _ _ (ih _ (by simp [hl]))
  exact this _ l rfl
theorem or_join {a : Int} {z : Nat} (h0 : 0 ≤ a) (h1 : a < 16777216) (hz : z < 256) : bits .or .i64 (a * 256) (z : Int) = a * 256 + z :=
  bits_join .i64 32 (by decide) (fun n h0 h1 => by simp [IntKind.wrap, IntKind.bits, IntKind.signed]; omega) 8 (a * 256) z (by omega) (by omega) (by omega) (by omega) (by omega) (by omega)
def valB (l : List UInt8) : Int := l.foldl (fun n x => n * 256 + (x.toNat : Int)) 0
def rdSmall (s : RS) : Int × RS := (valB ((rdTake 1 s).1.getD []), (rdTake 1 s).2)
def rdNum (s : RS) : Int × RS := (valB ((rdTake 4 s).1.getD []), (rdTake 4 s).2)
def rdText (s : RS) : ByteArray × RS := (bytesOf ((rdTake (rdSmall s).1.toNat (rdSmall s).2).1.getD []), (rdTake (rdSmall s).1.toNat (rdSmall s).2).2)
theorem valB_snoc (l : List UInt8) (x : UInt8) : valB (l ++ [x]) = valB l * 256 + (x.toNat : Int) := by simp [valB, List.foldl_append]
theorem valB_nonneg (l : List UInt8) : 0 ≤ valB l := by
  refine snocI (P := fun l => 0 ≤ valB l) (by decide) (fun l x h => ?_) l
  rw [valB_snoc]; omega
theorem valB_small {l : List UInt8} : ∀ n, l.length = n → valB l < 256 ^ n := by
  refine snocI (P := fun l => ∀ n, l.length = n → valB l < 256 ^ n) (fun n h => by simp at h; subst h; decide) (fun l x ih n h => ?_) l
  rw [valB_snoc]
  obtain ⟨m, rfl⟩ : ∃ m, n = m + 1 := ⟨n - 1, by simp at h; omega⟩
  have h1 := ih m (by simpa using h)
  have h2 : x.toNat < 256 := x.toNat_lt
  have : (256 : Int) ^ (m + 1) = 256 ^ m * 256 := by rw [Int.pow_succ]
  rw [this]
  omega
theorem rdTake_len {n : Nat} {s : RS} {l : List UInt8} (h : (rdTake n s).1 = some l) : l.length = n := by
  cases s with
  | none => cases h
  | some m =>
    simp only [rdTake] at h
    split at h
    · injection h with h; subst h; rw [List.length_take]; omega
    · cases h

/-- A number, or text, was read. -/
def RdBack (x : Nat) (v : Value) (s : RS) (w : World) (e : Ending) (w' : World) : Prop := (∃ er : Int, e = .returned (.tuple #[v, .int .i64 er])) ∧ RdAt w' x s ∧ Turn (· = x) w w'

theorem Bytes.cell {w : World} {p : Option Addr} {n c : Nat} {l : List UInt8} (h : Bytes w (.slice p n c) (bytesOf l)) {i : Nat} (hi : i < l.length) : ∃ b o, p = some ⟨b, o, none⟩ ∧ b < w.heap.size ∧ w.cell? ⟨b, o + i, none⟩ = some (.int .u8 (l[i].toNat : Int)) := by
  obtain ⟨p', c', e, _, _, h3⟩ := h
  injection e with e1 _ _
  subst e1
  rw [bytesOf_size] at h3
  obtain ⟨b, o, e, hb, hc⟩ := h3 (by omega)
  refine ⟨b, o, e, hb, ?_⟩
  rw [hc i (by rw [byteVals_length, bytesOf_size]; exact hi), byteVals_getD _ i (by rw [bytesOf_size]; exact hi)]
  rfl

set_option maxHeartbeats 1000000 in
theorem small_any (x : Nat) (s : RS) (w : World) (h : RdAt w x s) : Calls Try.prog 48 #[.pointer (some ⟨x, 0, none⟩)] w (RdBack x (.int .i64 (rdSmall s).1) (rdSmall s).2 w) := by
  go_enter Try.func48, Try.ntmps48
  go_wp2_with fail
  refine (take_any x 1 s w h (by omega)).mono ?_
  rintro e w2 ⟨h2, ht, h3⟩
  cases hr : (rdTake 1 s).1 with
  | none =>
    rw [hr] at h3
    subst h3
    have E : Hid ((rdSmall s).1 = 0) := hid (by simp [rdSmall, hr, valB])
    clear hr
    go_wp2
    go_ret2
    exact ⟨⟨3, by rw [E.out]; rfl⟩, h2, ht⟩
  | some l =>
    rw [hr] at h3
    obtain ⟨p, c, rfl, hc, hlen⟩ := h3
    match l, hlen with
    | [a], _ =>
      have E : Hid ((rdSmall s).1 = (a.toNat : Int)) := hid (by simp [rdSmall, hr, valB])
      obtain ⟨b, o, rfl, hb, hcell⟩ := Bytes.cell hc.1 (i := 0) (by simp)
      simp only [List.getElem_cons_zero, Nat.add_zero] at hcell
      have ha : a.toNat < 256 := a.toNat_lt
      clear hr hc
      generalize a.toNat = z at *
      go_wp2
      go_ret2
      exact ⟨⟨0, by rw [E.out]; rfl⟩, h2, ht⟩

set_option maxHeartbeats 1000000 in
theorem number_any (x : Nat) (s : RS) (w : World) (h : RdAt w x s) : Calls Try.prog 25 #[.pointer (some ⟨x, 0, none⟩)] w (RdBack x (.int .i64 (rdNum s).1) (rdNum s).2 w) := by
  go_enter Try.func25, Try.ntmps25
  go_wp2_with fail
  refine (take_any x 4 s w h (by omega)).mono ?_
  rintro e w2 ⟨h2, ht, h3⟩
  cases hr : (rdTake 4 s).1 with
  | none =>
    rw [hr] at h3
    subst h3
    have E : Hid ((rdNum s).1 = 0) := hid (by simp [rdNum, hr, valB])
    clear hr
    go_wp2
    go_ret2
    exact ⟨⟨3, by rw [E.out]; rfl⟩, h2, ht⟩
  | some l =>
    rw [hr] at h3
    obtain ⟨p, c, rfl, hc, hlen⟩ := h3
    have E : Hid ((rdNum s).1 = valB l) := hid (by simp [rdNum, hr])
    have HC := hid hc
    have H2 := hid h2
    clear hr hc h2
    go_wp2
    go_loopw [6, 8, 19] (fun acc _ i wr => ∃ j : Nat, j ≤ 4 ∧ i = .int .i64 j ∧ acc = .int .i64 (valB (l.take j)) ∧ w2 = wr) (fun _ _ i _ => 4 - (intOf i).toNat)
    case atStart => exact ⟨0, by omega, rfl, rfl, rfl⟩
    case round =>
      obtain ⟨j, hj, rfl, rfl, rfl⟩ := hrel
      by_cases hlt : j < 4
      · obtain ⟨b, o, rfl, hb, hcell⟩ := Bytes.cell HC.out.1 (i := j) (by omega)
        have NX : Hid (valB (l.take (j + 1)) = valB (l.take j) * 256 + (l[j].toNat : Int)) := hid (by rw [← List.take_append_getElem (show j < l.length by omega), valB_snoc])
        have ha : l[j].toNat < 256 := l[j].toNat_lt
        have hv0 := valB_nonneg (l.take j)
        have hv1 : valB (l.take j) < 16777216 := by
          have := valB_small (l := l.take j) j (by rw [List.length_take]; omega)
          have : (256 : Int) ^ j ≤ 16777216 := by
            have : j = 0 ∨ j = 1 ∨ j = 2 ∨ j = 3 := by omega
            rcases this with rfl | rfl | rfl | rfl <;> decide
          omega
        generalize valB (l.take j) = acc at *
        generalize l[j].toNat = z at *
        go_wp2
        go_roundw
        case rel => exact ⟨j + 1, by omega, by go_num, by rw [NX.out, or_join hv0 hv1 ha], trivial⟩
        case measure => simp [intOf]; omega
      · obtain rfl : j = 4 := by omega
        have EV : Hid (valB (l.take 4) = (rdNum s).1) := hid (by rw [E.out, List.take_of_length_le (by omega)])
        go_wp2
        go_ret2
        exact ⟨⟨0, by rw [← EV.out]; rfl⟩, H2.out, ht⟩

set_option maxHeartbeats 1000000 in
theorem text_any (x : Nat) (s : RS) (w : World) (h : RdAt w x s) : Calls Try.prog 51 #[.pointer (some ⟨x, 0, none⟩)] w (RdBack x (.string (rdText s).1) (rdText s).2 w) := by
  have H := hid h
  obtain ⟨v, bad, h1, ⟨p0, n0, c0, rfl⟩, h3⟩ := h
  obtain ⟨_, d1, _, _, _⟩ := rd_cells h1
  clear h1 h3
  go_enter Try.func51, Try.ntmps51
  go_wp2_with fail
  refine (rdNone_any x _ w H.out).mono ?_
  rintro e w' ⟨rfl, rfl⟩
  go_wp2_with fail
  refine (small_any x s w H.out).mono ?_
  rintro e w2 ⟨⟨er, rfl⟩, h2, ht2⟩
  obtain ⟨n, hn⟩ : ∃ n : Nat, (rdSmall s).1 = (n : Int) := ⟨(rdSmall s).1.toNat, by have := valB_nonneg ((rdTake 1 s).1.getD []); simp only [rdSmall]; omega⟩
  have hn1 : n ≤ 1000 := by
    have h1 := valB_nonneg ((rdTake 1 s).1.getD [])
    cases hr : (rdTake 1 s).1 with
    | none => simp [rdSmall, hr, valB] at hn; omega
    | some l =>
      have := valB_small (l := l) 1 (rdTake_len hr)
      simp only [rdSmall, hr, Option.getD_some] at hn
      omega
  have ET : Hid (rdText s = (bytesOf ((rdTake n (rdSmall s).2).1.getD []), (rdTake n (rdSmall s).2).2)) := hid (by simp only [rdText, hn, Int.toNat_natCast])
  rw [hn]
  clear hn
  go_wp2_with fail
  refine (take_any x n _ w2 h2 hn1).mono ?_
  rintro e w3 ⟨h4, ht3, h5⟩
  cases hr : (rdTake n (rdSmall s).2).1 with
  | none =>
    rw [hr] at h5
    subst h5
    obtain ⟨v3, bad3, g1, ⟨p3, n3, c3, rfl⟩, g3⟩ := id h4
    have e0 : (rdTake n (rdSmall s).2).2 = none := by
      cases hs : (rdSmall s).2 with
      | none => rfl
      | some m =>
        rw [hs] at hr
        simp only [rdTake] at hr ⊢
        split at hr
        · cases hr
        · rename_i hh; rw [if_neg hh]
    obtain ⟨_, d3, _, z3, _⟩ := rd_cells g1
    rw [e0] at g3
    subst g3
    have G1 := hid g1
    have ES : Hid (rdText s = (ByteArray.empty, none)) := hid (by rw [ET.out, hr, e0]; rfl)
    clear hr g1 h4 e0
    go_wp2
    go_ret2
    rw [ES.out]
    exact ⟨⟨3, rfl⟩, ⟨_, true, rd_set1 G1.out _, ⟨_, _, _, rfl⟩, rfl⟩, (ht2.trans ht3).trans (turn_set w3 x 1 _)⟩
  | some l =>
    rw [hr] at h5
    obtain ⟨p, c, rfl, hc, hlen⟩ := h5
    subst hlen
    have hcb : Bytes w3 (.slice p (bytesOf l).size c) (bytesOf l) := by rw [bytesOf_size]; exact hc.1
    have kc := hcb.convert (P := Try.prog) 22 5 9 Try.underlying22 Try.underlying5 Try.underlying9
    rw [bytesOf_size] at kc
    have ES : Hid ((rdText s).1 = bytesOf l ∧ (rdText s).2 = (rdTake l.length (rdSmall s).2).2) := hid (by rw [ET.out, hr]; exact ⟨rfl, rfl⟩)
    clear hr hcb hc
    go_wp2
    go_ret2
    exact ⟨⟨0, by rw [ES.out.1]; rfl⟩, by rw [ES.out.2]; exact h4, ht2.trans ht3⟩

theorem bad_any (x : Nat) (s : RS) (w : World) (h : RdAt w x s) : Calls Try.prog 68 #[.pointer (some ⟨x, 0, none⟩)] w fun e w' => e = .returned (.bool s.isNone) ∧ w = w' := by
  have H := hid h
  obtain ⟨v, bad, h1, ⟨p0, n0, c0, rfl⟩, h3⟩ := h
  obtain ⟨_, _, d2, _, _⟩ := rd_cells h1
  have hb : bad = s.isNone := by cases s with | none => exact h3 | some l => exact h3.1
  rw [hb] at d2
  clear h1 h3
  go_enter Try.func68, Try.ntmps68
  go_wp2_with fail
  refine (rdNone_any x _ w H.out).mono ?_
  rintro e w' ⟨rfl, rfl⟩
  go_wp2
  go_ret
  exact ⟨rfl, rfl⟩
theorem done_any (x : Nat) (s : RS) (w : World) (h : RdAt w x s) : Calls Try.prog 52 #[.pointer (some ⟨x, 0, none⟩)] w fun e w' => e = .returned (.bool (decide (s = some []))) ∧ w = w' := by
  have H := hid h
  obtain ⟨v, bad, h1, ⟨p0, n0, c0, rfl⟩, h3⟩ := h
  obtain ⟨_, d1, _, _, _⟩ := rd_cells h1
  clear h1
  cases s with
  | none =>
    go_enter Try.func52, Try.ntmps52
    go_wp2_with fail
    refine (bad_any x _ w H.out).mono ?_
    rintro e w' ⟨rfl, rfl⟩
    go_wp2
    go_ret
    exact ⟨rfl, rfl⟩
  | some l =>
    have hl : n0 = l.length := by
      obtain ⟨_, _, e, _⟩ := h3.2.1
      injection e with _ e _
    subst hl
    clear h3
    go_enter Try.func52, Try.ntmps52
    go_wp2_with fail
    refine (bad_any x _ w H.out).mono ?_
    rintro e w' ⟨rfl, rfl⟩
    go_wp2
    go_ret
    refine ⟨ret_bool ?_, rfl⟩
    cases l with
    | nil => rfl
    | cons a l => simp; omega

/-- A new reader of bytes. -/
theorem newReader_any (v : Value) (l : List UInt8) (w : World) (h : Bytes w v (bytesOf l)) (hl : l.length ≤ 1000000) : Calls Try.prog 24 #[v] w fun e w' => ∃ x, e = .returned (.pointer (some ⟨x, 0, none⟩)) ∧ RdAt w' x (some l) ∧ New w w' ∧ w.heap.size ≤ x := by
  obtain ⟨p, c, rfl, g1, g2, _⟩ := id h
  unfold maxLen at g2
  have H := hid h
  clear h
  go_enter Try.func24, Try.ntmps24
  go_wp2_with fail
  refine (cloneBytes_any _ _ _ H.out (by rw [bytesOf_size]; omega)).mono ?_
  rintro e w2 ⟨p2, k2, rfl, hc2, hn2⟩
  have HC2 := hid hc2
  have HN2 := hid hn2
  clear hc2 hn2
  go_wp2
  go_ret
  refine ⟨w2.heap.size, rfl, ?_, HN2.out.alloc _ _, HN2.out.size⟩
  exact ⟨_, false, heap_alloc_new w2 _, ⟨_, _, _, rfl⟩, rfl, HC2.out.turn (S := fun _ => False) (Turn.of_new ((New.refl w2).alloc _ _)) (apart_none _)⟩

end Go.Proofs.Ytdccbceaajnajaa
