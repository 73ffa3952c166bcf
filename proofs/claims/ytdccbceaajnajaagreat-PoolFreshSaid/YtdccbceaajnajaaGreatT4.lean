/- octet.Reader: Small, Number, Text, Bad, Done, NewReader. The specification's reader of bytes (progenyref01): take, Small, Number, Text, NewReader. The specification's reader of bytes: Text, NewReader. -/
import Derived.Test.YtdccbceaajnajaaGreatT1
import Derived.Laws.BitsLemmas
import Derived.Test.YtdccbceaajnajaaGreatA9
namespace Go.Proofs.YtdccbceaajnajaaGreat
open Go.RowKit
set_option linter.unusedSimpArgs false
set_option linter.unusedVariables false

theorem snocI {α : Type} {P : List α → Prop} (h0 : P []) (h1 : ∀ l p, P l → P (l ++ [p])) (l : List α) : P l := by
  have : ∀ n (l : List α), l.length = n → P l := by
    intro n
    induction n with
    | zero => intro l hl; rw [List.eq_nil_of_length_eq_zero hl]; exact h0
    | succ n ih =>
      intro l hl
      have hne : l ≠ [] := by intro e; subst e; simp at hl
      rw [← List.dropLast_concat_getLast hne]
      exact h1 _ _ (ih _ (by simp [hl]))
  exact this _ l rfl
theorem or_join {a : Int} {z : Nat} (h0 : 0 ≤ a) (h1 : a < 16777216) (hz : z < 256) : bits .or .i64 (a * 256) (z : Int) = a * 256 + z :=
  bits_join .i64 32 (by decide) (fun n h0 h1 => by simp [IntKind.wrap, IntKind.bits, IntKind.signed]; omega) 8 (a * 256) z (by omega) (by omega) (by omega) (by omega) (by omega) (by omega)
def valB (l : List UInt8) : Int := l.foldl (fun n x => n * 256 + (x.toNat : Int)) 0
def rdSmall (s : RS) : Int × RS := (valB ((rdTake 1 s).1.getD []), (rdTake 1 s).2)
def rdNum (s : RS) : Int × RS := (valB ((rdTake 4 s).1.getD []), (rdTake 4 s).2)
def rdText (s : RS) : ByteArray × RS := (bytesOf ((rdTake (rdSmall s).1.toNat (rdSmall s).2).1.getD []), (rdTake (rdSmall s).1.toNat (rdSmall s).2).2)
theorem valB_snoc (l : List UInt8) (x : UInt8) : valB (l ++ [x]) = valB l * 256 + (x.toNat : Int) := by simp [valB, List.foldl_append]
theorem valB_nonneg (l : List UInt8) : 0 ≤ valB l := by
  refine snocI (P := fun l => 0 ≤ valB l) (by decide) (fun l x h => ?_) l
  rw [valB_snoc]; omega
theorem valB_small {l : List UInt8} : ∀ n, l.length = n → valB l < 256 ^ n := by
  refine snocI (P := fun l => ∀ n, l.length = n → valB l < 256 ^ n) (fun n h => by simp at h; subst h; decide) (fun l x ih n h => ?_) l
  rw [valB_snoc]
  obtain ⟨m, rfl⟩ : ∃ m, n = m + 1 := ⟨n - 1, by simp at h; omega⟩
  have h1 := ih m (by simpa using h)
  have h2 : x.toNat < 256 := x.toNat_lt
  have : (256 : Int) ^ (m + 1) = 256 ^ m * 256 := by rw [Int.pow_succ]
  rw [this]
  omega
theorem rdTake_len {n : Nat} {s : RS} {l : List UInt8} (h : (rdTake n s).1 = some l) : l.length = n := by
  cases s with
  | none => cases h
  | some m =>
    simp only [rdTake] at h
    split at h
    · injection h with h; subst h; rw [List.length_take]; omega
    · cases h

/-- A number, or text, was read. -/
def RdBack (x : Nat) (v : Value) (s : RS) (w : World) (e : Ending) (w' : World) : Prop := (∃ er : Int, e = .returned (.tuple #[v, .int .i64 er])) ∧ RdAt w' x s ∧ Turn (· = x) w w'

theorem Bytes.cell {w : World} {p : Option Addr} {n c : Nat} {l : List UInt8} (h : Bytes w (.slice p n c) (bytesOf l)) {i : Nat} (hi : i < l.length) : ∃ b o, p = some ⟨b, o, none⟩ ∧ b < w.heap.size ∧ w.cell? ⟨b, o + i, none⟩ = some (.int .u8 (l[i].toNat : Int)) := by
  obtain ⟨p', c', e, _, _, h3⟩ := h
  injection e with e1 _ _
  subst e1
  rw [bytesOf_size] at h3
  obtain ⟨b, o, e, hb, hc⟩ := h3 (by omega)
  refine ⟨b, o, e, hb, ?_⟩
  rw [hc i (by rw [byteVals_length, bytesOf_size]; exact hi), byteVals_getD _ i (by rw [bytesOf_size]; exact hi)]
  rfl

set_option maxHeartbeats 1000000 in
theorem small_any (x : Nat) (s : RS) (w : World) (h : RdAt w x s) : Calls Tryz.prog 88 #[.pointer (some ⟨x, 0, none⟩)] w (RdBack x (.int .i64 (rdSmall s).1) (rdSmall s).2 w) := by
  go_enter Tryz.func88, Tryz.ntmps88
  go_wp2_with fail
  refine (take_any x 1 s w h (by omega)).mono ?_
  rintro e w2 ⟨h2, ht, h3⟩
  cases hr : (rdTake 1 s).1 with
  | none =>
    rw [hr] at h3
    subst h3
    have E : Hid ((rdSmall s).1 = 0) := hid (by simp [rdSmall, hr, valB])
    clear hr
    go_wp2
    go_ret2
    exact ⟨⟨3, by rw [E.out]; rfl⟩, h2, ht⟩
  | some l =>
    rw [hr] at h3
    obtain ⟨p, c, rfl, hc, hlen⟩ := h3
    match l, hlen with
    | [a], _ =>
      have E : Hid ((rdSmall s).1 = (a.toNat : Int)) := hid (by simp [rdSmall, hr, valB])
      obtain ⟨b, o, rfl, hb, hcell⟩ := Bytes.cell hc.1 (i := 0) (by simp)
      simp only [List.getElem_cons_zero, Nat.add_zero] at hcell
      have ha : a.toNat < 256 := a.toNat_lt
      clear hr hc
      generalize a.toNat = z at *
      go_wp2
      go_ret2
      exact ⟨⟨0, by rw [E.out]; rfl⟩, h2, ht⟩

set_option maxHeartbeats 1000000 in
theorem number_any (x : Nat) (s : RS) (w : World) (h : RdAt w x s) : Calls Tryz.prog 87 #[.pointer (some ⟨x, 0, none⟩)] w (RdBack x (.int .i64 (rdNum s).1) (rdNum s).2 w) := by
  go_enter Tryz.func87, Tryz.ntmps87
  go_wp2_with fail
  refine (take_any x 4 s w h (by omega)).mono ?_
  rintro e w2 ⟨h2, ht, h3⟩
  cases hr : (rdTake 4 s).1 with
  | none =>
    rw [hr] at h3
    subst h3
    have E : Hid ((rdNum s).1 = 0) := hid (by simp [rdNum, hr, valB])
    clear hr
    go_wp2
    go_ret2
    exact ⟨⟨3, by rw [E.out]; rfl⟩, h2, ht⟩
  | some l =>
    rw [hr] at h3
    obtain ⟨p, c, rfl, hc, hlen⟩ := h3
    have E : Hid ((rdNum s).1 = valB l) := hid (by simp [rdNum, hr])
    have HC := hid hc
    have H2 := hid h2
    clear hr hc h2
    go_wp2
    go_loopw [6, 8, 19] (fun acc _ i wr => ∃ j : Nat, j ≤ 4 ∧ i = .int .i64 j ∧ acc = .int .i64 (valB (l.take j)) ∧ w2 = wr) (fun _ _ i _ => 4 - (intOf i).toNat)
    case atStart => exact ⟨0, by omega, rfl, rfl, rfl⟩
    case round =>
      obtain ⟨j, hj, rfl, rfl, rfl⟩ := hrel
      by_cases hlt : j < 4
      · obtain ⟨b, o, rfl, hb, hcell⟩ := Bytes.cell HC.out.1 (i := j) (by omega)
        have NX : Hid (valB (l.take (j + 1)) = valB (l.take j) * 256 + (l[j].toNat : Int)) := hid (by rw [← List.take_append_getElem (show j < l.length by omega), valB_snoc])
        have ha : l[j].toNat < 256 := l[j].toNat_lt
        have hv0 := valB_nonneg (l.take j)
        have hv1 : valB (l.take j) < 16777216 := by
          have := valB_small (l := l.take j) j (by rw [List.length_take]; omega)
          have : (256 : Int) ^ j ≤ 16777216 := by
            have : j = 0 ∨ j = 1 ∨ j = 2 ∨ j = 3 := by omega
            rcases this with rfl | rfl | rfl | rfl <;> decide
          omega
        generalize valB (l.take j) = acc at *
        generalize l[j].toNat = z at *
        go_wp2
        go_roundw
        case rel => exact ⟨j + 1, by omega, by go_num, by rw [NX.out, or_join hv0 hv1 ha], trivial⟩
        case measure => simp [intOf]; omega
      · obtain rfl : j = 4 := by omega
        have EV : Hid (valB (l.take 4) = (rdNum s).1) := hid (by rw [E.out, List.take_of_length_le (by omega)])
        go_wp2
        go_ret2
        exact ⟨⟨0, by rw [← EV.out]; rfl⟩, H2.out, ht⟩

set_option maxHeartbeats 1000000 in
theorem text_any (x : Nat) (s : RS) (w : World) (h : RdAt w x s) : Calls Tryz.prog 91 #[.pointer (some ⟨x, 0, none⟩)] w (RdBack x (.string (rdText s).1) (rdText s).2 w) := by
  have H := hid h
  obtain ⟨v, bad, h1, ⟨p0, n0, c0, rfl⟩, h3⟩ := h
  obtain ⟨_, d1, _, _, _⟩ := rd_cells h1
  clear h1 h3
  go_enter Tryz.func91, Tryz.ntmps91
  go_wp2_with fail
  refine (rdNone_any x _ w H.out).mono ?_
  rintro e w' ⟨rfl, rfl⟩
  go_wp2_with fail
  refine (small_any x s w H.out).mono ?_
  rintro e w2 ⟨⟨er, rfl⟩, h2, ht2⟩
  obtain ⟨n, hn⟩ : ∃ n : Nat, (rdSmall s).1 = (n : Int) := ⟨(rdSmall s).1.toNat, by have := valB_nonneg ((rdTake 1 s).1.getD []); simp only [rdSmall]; omega⟩
  have hn1 : n ≤ 1000 := by
    have h1 := valB_nonneg ((rdTake 1 s).1.getD [])
    cases hr : (rdTake 1 s).1 with
    | none => simp [rdSmall, hr, valB] at hn; omega
    | some l =>
      have := valB_small (l := l) 1 (rdTake_len hr)
      simp only [rdSmall, hr, Option.getD_some] at hn
      omega
  have ET : Hid (rdText s = (bytesOf ((rdTake n (rdSmall s).2).1.getD []), (rdTake n (rdSmall s).2).2)) := hid (by simp only [rdText, hn, Int.toNat_natCast])
  rw [hn]
  clear hn
  go_wp2_with fail
  refine (take_any x n _ w2 h2 hn1).mono ?_
  rintro e w3 ⟨h4, ht3, h5⟩
  cases hr : (rdTake n (rdSmall s).2).1 with
  | none =>
    rw [hr] at h5
    subst h5
    obtain ⟨v3, bad3, g1, ⟨p3, n3, c3, rfl⟩, g3⟩ := id h4
    have e0 : (rdTake n (rdSmall s).2).2 = none := by
      cases hs : (rdSmall s).2 with
      | none => rfl
      | some m =>
        rw [hs] at hr
        simp only [rdTake] at hr ⊢
        split at hr
        · cases hr
        · rename_i hh; rw [if_neg hh]
    obtain ⟨_, d3, _, z3, _⟩ := rd_cells g1
    rw [e0] at g3
    subst g3
    have G1 := hid g1
    have ES : Hid (rdText s = (ByteArray.empty, none)) := hid (by rw [ET.out, hr, e0]; rfl)
    clear hr g1 h4 e0
    go_wp2
    go_ret2
    rw [ES.out]
    exact ⟨⟨3, rfl⟩, ⟨_, true, rd_set1 G1.out _, ⟨_, _, _, rfl⟩, rfl⟩, (ht2.trans ht3).trans (turn_set w3 x 1 _)⟩
  | some l =>
    rw [hr] at h5
    obtain ⟨p, c, rfl, hc, hlen⟩ := h5
    subst hlen
    have hcb : Bytes w3 (.slice p (bytesOf l).size c) (bytesOf l) := by rw [bytesOf_size]; exact hc.1
    have kc := hcb.convert (P := Tryz.prog) 29 5 9 Tryz.underlying29 Tryz.underlying5 Tryz.underlying9
    rw [bytesOf_size] at kc
    have ES : Hid ((rdText s).1 = bytesOf l ∧ (rdText s).2 = (rdTake l.length (rdSmall s).2).2) := hid (by rw [ET.out, hr]; exact ⟨rfl, rfl⟩)
    clear hr hcb hc
    go_wp2
    go_ret2
    exact ⟨⟨0, by rw [ES.out.1]; rfl⟩, by rw [ES.out.2]; exact h4, ht2.trans ht3⟩

theorem bad_any (x : Nat) (s : RS) (w : World) (h : RdAt w x s) : Calls Tryz.prog 122 #[.pointer (some ⟨x, 0, none⟩)] w fun e w' => e = .returned (.bool s.isNone) ∧ w = w' := by
  have H := hid h
  obtain ⟨v, bad, h1, ⟨p0, n0, c0, rfl⟩, h3⟩ := h
  obtain ⟨_, _, d2, _, _⟩ := rd_cells h1
  have hb : bad = s.isNone := by cases s with | none => exact h3 | some l => exact h3.1
  rw [hb] at d2
  clear h1 h3
  go_enter Tryz.func122, Tryz.ntmps122
  go_wp2_with fail
  refine (rdNone_any x _ w H.out).mono ?_
  rintro e w' ⟨rfl, rfl⟩
  go_wp2
  go_ret
  exact ⟨rfl, rfl⟩
theorem done_any (x : Nat) (s : RS) (w : World) (h : RdAt w x s) : Calls Tryz.prog 92 #[.pointer (some ⟨x, 0, none⟩)] w fun e w' => e = .returned (.bool (decide (s = some []))) ∧ w = w' := by
  have H := hid h
  obtain ⟨v, bad, h1, ⟨p0, n0, c0, rfl⟩, h3⟩ := h
  obtain ⟨_, d1, _, _, _⟩ := rd_cells h1
  clear h1
  cases s with
  | none =>
    go_enter Tryz.func92, Tryz.ntmps92
    go_wp2_with fail
    refine (bad_any x _ w H.out).mono ?_
    rintro e w' ⟨rfl, rfl⟩
    go_wp2
    go_ret
    exact ⟨rfl, rfl⟩
  | some l =>
    have hl : n0 = l.length := by
      obtain ⟨_, _, e, _⟩ := h3.2.1
      injection e with _ e _
    subst hl
    clear h3
    go_enter Tryz.func92, Tryz.ntmps92
    go_wp2_with fail
    refine (bad_any x _ w H.out).mono ?_
    rintro e w' ⟨rfl, rfl⟩
    go_wp2
    go_ret
    refine ⟨ret_bool ?_, rfl⟩
    cases l with
    | nil => rfl
    | cons a l => simp; omega

/-- A new reader of bytes. -/
theorem newReader_any (v : Value) (l : List UInt8) (w : World) (h : Bytes w v (bytesOf l)) (hl : l.length ≤ 1000000) : Calls Tryz.prog 86 #[v] w fun e w' => ∃ x, e = .returned (.pointer (some ⟨x, 0, none⟩)) ∧ RdAt w' x (some l) ∧ New w w' ∧ w.heap.size ≤ x := by
  obtain ⟨p, c, rfl, g1, g2, _⟩ := id h
  unfold maxLen at g2
  have H := hid h
  clear h
  go_enter Tryz.func86, Tryz.ntmps86
  go_wp2_with fail
  refine (cloneBytes_any _ _ _ H.out (by rw [bytesOf_size]; omega)).mono ?_
  rintro e w2 ⟨p2, k2, rfl, hc2, hn2⟩
  have HC2 := hid hc2
  have HN2 := hid hn2
  clear hc2 hn2
  go_wp2
  go_ret
  refine ⟨w2.heap.size, rfl, ?_, HN2.out.alloc _ _, HN2.out.size⟩
  exact ⟨_, false, heap_alloc_new w2 _, ⟨_, _, _, rfl⟩, rfl, HC2.out.turn (S := fun _ => False) (Turn.of_new ((New.refl w2).alloc _ _)) (apart_none _)⟩

end Go.Proofs.YtdccbceaajnajaaGreat

namespace Go.Proofs.YtdccbceaajnajaaGreat
open Go.RowKit
set_option linter.unusedSimpArgs false
set_option linter.unusedVariables false

/-- A reader in memory. -/
def QdAt (w : World) (x : Nat) (s : RS) : Prop :=
  ∃ v bad, w.heap[x]? = some (.cells #[v, .bool bad] 113 (0, 0)) ∧ (∃ p n c, v = .slice p n c) ∧ match s with | some l => bad = false ∧ Content w v (bytesOf l) | none => bad = true
theorem QdAt.lt {w : World} {x : Nat} {s : RS} (h : QdAt w x s) : x < w.heap.size := by
  obtain ⟨v, bad, h1, _⟩ := h
  exact (Array.getElem?_eq_some_iff.1 h1).1
theorem qd_cells {w : World} {x : Nat} {v : Value} {bad : Bool} (h : w.heap[x]? = some (.cells #[v, .bool bad] 113 (0, 0))) :
    w.cell? ⟨x, 0, none⟩ = some v ∧ w.cell? ⟨x, 1, none⟩ = some (.bool bad) ∧ w.frozen? ⟨x, 0, none⟩ = false ∧ w.frozen? ⟨x, 1, none⟩ = false := by
  refine ⟨?_, ?_, ?_, ?_⟩
  · simp only [World.cell?, h]; rfl
  · simp only [World.cell?, h]; rfl
  · simp only [World.frozen?, h]; simp
  · simp only [World.frozen?, h]; simp
theorem qd_apart {w : World} {x : Nat} {v : Value} {bad : Bool} (h : w.heap[x]? = some (.cells #[v, .bool bad] 113 (0, 0))) : Apart (· = x) w := by
  intro k c fr hk e
  subst hk
  rw [h] at e
  injection e with e
  injection e with _ e2 _
  cases e2
theorem QdAt.turn {S : Nat → Prop} {w w' : World} {x : Nat} {s : RS} (h : QdAt w x s) (ht : Turn S w w') (hx : ¬ S x) (hS : Apart S w) : QdAt w' x s := by
  have hl := h.lt
  obtain ⟨v, bad, h1, h2, h3⟩ := h
  refine ⟨v, bad, by rw [ht.block x hl hx]; exact h1, h2, ?_⟩
  cases s with
  | none => exact h3
  | some l => exact ⟨h3.1, h3.2.turn ht hS⟩
theorem QdAt.new {w w' : World} {x : Nat} {s : RS} (h : QdAt w x s) (hn : New w w') : QdAt w' x s := h.turn (S := fun _ => False) (Turn.of_new hn) (fun h => h) (apart_none w)
theorem qd_set0 {w : World} {x : Nat} {v : Value} {bad : Bool} (h : w.heap[x]? = some (.cells #[v, .bool bad] 113 (0, 0))) (u : Value) : (w.setCell ⟨x, 0, none⟩ u).heap[x]? = some (.cells #[u, .bool bad] 113 (0, 0)) :=
  heap_setCell_same w x 0 _ 113 u h
theorem qd_set1 {w : World} {x : Nat} {v : Value} {bad : Bool} (h : w.heap[x]? = some (.cells #[v, .bool bad] 113 (0, 0))) : (w.setCell ⟨x, 1, none⟩ (.bool true)).heap[x]? = some (.cells #[v, .bool true] 113 (0, 0)) :=
  heap_setCell_same w x 1 _ 113 (.bool true) h
/-- What take returns. -/
def QTakeBack (x n : Nat) (s : RS) (w : World) (e : Ending) (w' : World) : Prop :=
  QdAt w' x (rdTake n s).2 ∧ Turn (· = x) w w' ∧ match (rdTake n s).1 with | none => e = .returned (.tuple #[.slice none 0 0, .bool false]) | some l => ∃ p c, e = .returned (.tuple #[.slice p n c, .bool true]) ∧ Content w' (.slice p n c) (bytesOf l) ∧ l.length = n

set_option maxHeartbeats 2000000 in
set_option maxRecDepth 100000 in
theorem refTake_any (x n : Nat) (s : RS) (w : World) (h : QdAt w x s) (hn : n ≤ 1000) : Calls Tryz.prog 74 #[.pointer (some ⟨x, 0, none⟩), .int .i64 n] w (QTakeBack x n s w) := by
  have H := hid h
  obtain ⟨v, bad, h1, ⟨p, m, c, rfl⟩, h3⟩ := h
  obtain ⟨c1, c2, z1, z2⟩ := qd_cells h1
  have H1 := hid h1
  clear h1
  cases s with
  | none =>
    subst h3
    go_enter Tryz.func74, Tryz.ntmps74
    go_wp2
    go_ret2
    exact ⟨⟨_, true, qd_set1 H1.out, ⟨_, _, _, rfl⟩, rfl⟩, turn_set w x 1 _, rfl⟩
  | some l =>
    obtain ⟨rfl, hc⟩ := h3
    have hc0 := hc
    obtain ⟨⟨p', c', e, g1, g2, _⟩, _⟩ := hc0
    rw [bytesOf_size] at e g1
    injection e with e1 e2 e3
    subst e1 e2 e3
    unfold maxLen at g2
    have HC := hid hc
    clear hc
    by_cases hle : n ≤ l.length
    case neg =>
      have E : Hid (rdTake n (some l) = (none, none)) := hid (by simp only [rdTake, if_neg hle])
      go_enter Tryz.func74, Tryz.ntmps74
      go_wp2
      go_ret2
      refine ⟨?_, turn_set w x 1 _, ?_⟩
      · rw [E.out]; exact ⟨_, true, qd_set1 H1.out, ⟨_, _, _, rfl⟩, rfl⟩
      · rw [E.out]; rfl
    have E : Hid (rdTake n (some l) = (some (l.take n), some (l.drop n))) := hid (by simp only [rdTake, if_pos hle])
    have hlen : (l.take n).length = n := by rw [List.length_take]; omega
    have HLEN := hid hlen
    clear hlen
    cases p with
    | none =>
      have hl0 : l.length = 0 := by
        obtain ⟨_, _, e, _, _, h3⟩ := HC.out.1
        rw [bytesOf_size] at h3
        rcases Nat.eq_zero_or_pos l.length with h | h
        · exact h
        · obtain ⟨b, o, e', _⟩ := h3 h
          injection e with e
          rw [e'] at e; cases e
      have hn0 : n = 0 := by omega
      subst hn0
      have hl : l = [] := List.eq_nil_of_length_eq_zero hl0
      subst hl
      go_enter Tryz.func74, Tryz.ntmps74
      go_wp2
      go_ret2
      have ht := turn_set w x 0 (.slice none 0 c)
      have hap := qd_apart H1.out
      have hcz : Content w (.slice none 0 c) (bytesOf []) := HC.out
      refine ⟨?_, ht, ?_⟩
      · rw [E.out]
        exact ⟨_, false, qd_set0 H1.out _, ⟨_, _, _, rfl⟩, rfl, hcz.turn ht hap⟩
      · rw [E.out]
        exact ⟨none, c, rfl, hcz.turn ht hap, rfl⟩
    | some q =>
      have T : Hid (∀ u, Content (w.setCell ⟨x, 0, none⟩ u) (.slice (some q) n c) (bytesOf (l.take n))) := fun u => by
        have hb := Bytes.take (m := n) (by rw [bytesOf_size]; exact HC.out.1) (by rw [bytesOf_size]; exact hle)
        rw [bytesOf_extract, List.drop_zero] at hb
        exact (HC.out.part hb (fun k hk => hk)).turn (turn_set w x 0 u) (qd_apart H1.out)
      by_cases hlt : n < l.length
      · have D : Hid (Content (w.setCell ⟨x, 0, none⟩ (.slice (some (q.add n)) (l.length - n) (c - n))) (.slice (some (q.add n)) (l.length - n) (c - n)) (bytesOf (l.drop n))) := hid (by
          have hb := Bytes.drop (m := n) (by rw [bytesOf_size]; exact HC.out.1) (by rw [bytesOf_size]; exact hlt)
          rw [bytesOf_extract, bytesOf_size, List.take_length] at hb
          exact (HC.out.part hb (fun k hk => by
            have : (q.add n).block = q.block := by unfold Addr.add; split <;> rfl
            simpa [Value.ownBlock, this] using hk)).turn (turn_set w x 0 _) (qd_apart H1.out))
        have hlc : n < c := by omega
        go_enter Tryz.func74, Tryz.ntmps74
        go_wp2
        go_ret2
        refine ⟨?_, turn_set w x 0 _, ?_⟩
        · rw [E.out]
          exact ⟨_, false, qd_set0 H1.out _, ⟨_, _, _, rfl⟩, rfl, D.out⟩
        · rw [E.out]
          exact ⟨some q, c, rfl, T.out _, HLEN.out⟩
      · have hnl : n = l.length := by omega
        have hd : l.drop n = [] := List.drop_eq_nil_of_le (by omega)
        have HD : Hid (∀ p' c', c' ≤ maxLen → (∀ k, (Value.slice p' 0 c').ownBlock = some k → (Value.slice (some q) l.length c).ownBlock = some k) → Content (w.setCell ⟨x, 0, none⟩ (.slice p' 0 c')) (.slice p' 0 c') (bytesOf (l.drop n))) := fun p' c' h h' => by
          rw [hd]
          exact (HC.out.part (Bytes.none_left w p' c' h) h').turn (turn_set w x 0 _) (qd_apart H1.out)
        have HNL := hid hnl
        clear hnl
        by_cases hcn : n < c
        · have hz : l.length - n = 0 := by omega
          go_enter Tryz.func74, Tryz.ntmps74
          go_wp2
          go_ret2
          refine ⟨?_, turn_set w x 0 _, ?_⟩
          · rw [E.out]
            exact ⟨_, false, qd_set0 H1.out _, ⟨_, _, _, rfl⟩, rfl, HD.out _ _ (by unfold maxLen; omega) (fun k hk => by
              have : (q.add n).block = q.block := by unfold Addr.add; split <;> rfl
              simpa [Value.ownBlock, this] using hk)⟩
          · rw [E.out]
            exact ⟨some q, c, rfl, T.out _, HLEN.out⟩
        · have hz : l.length - n = 0 := by omega
          have hcz : c - n = 0 := by omega
          go_enter Tryz.func74, Tryz.ntmps74
          go_wp2
          go_ret2
          refine ⟨?_, turn_set w x 0 _, ?_⟩
          · rw [E.out]
            exact ⟨_, false, qd_set0 H1.out _, ⟨_, _, _, rfl⟩, rfl, HD.out _ _ (by unfold maxLen; omega) (fun k hk => hk)⟩
          · rw [E.out]
            exact ⟨some q, c, rfl, T.out _, HLEN.out⟩

def QBack (x : Nat) (v : Value) (s : RS) (w : World) (e : Ending) (w' : World) : Prop := (∃ er : Int, e = .returned (.tuple #[v, .int .i64 er])) ∧ QdAt w' x s ∧ Turn (· = x) w w'

set_option maxHeartbeats 1000000 in
theorem refNumber_any (x : Nat) (s : RS) (w : World) (h : QdAt w x s) : Calls Tryz.prog 42 #[.pointer (some ⟨x, 0, none⟩)] w (QBack x (.int .i64 (rdNum s).1) (rdNum s).2 w) := by
  go_enter Tryz.func42, Tryz.ntmps42
  go_wp2_with fail
  refine (refTake_any x 4 s w h (by omega)).mono ?_
  rintro e w2 ⟨h2, ht, h3⟩
  cases hr : (rdTake 4 s).1 with
  | none =>
    rw [hr] at h3
    subst h3
    have E : Hid ((rdNum s).1 = 0) := hid (by simp [rdNum, hr, valB])
    clear hr
    go_wp2
    go_ret2
    exact ⟨⟨3, by rw [E.out]; rfl⟩, h2, ht⟩
  | some l =>
    rw [hr] at h3
    obtain ⟨p, c, rfl, hc, hlen⟩ := h3
    match l, hlen with
    | [a0, a1, a2, a3], _ =>
      have E : Hid ((rdNum s).1 = (((a0.toNat : Int) * 256 + a1.toNat) * 256 + a2.toNat) * 256 + a3.toNat) := hid (by simp [rdNum, hr, valB])
      obtain ⟨b, o, rfl, hb, y0⟩ := Bytes.cell hc.1 (i := 0) (by simp)
      obtain ⟨b1, o1, e1, _, y1⟩ := Bytes.cell hc.1 (i := 1) (by simp)
      obtain ⟨b2, o2, e2, _, y2⟩ := Bytes.cell hc.1 (i := 2) (by simp)
      obtain ⟨b3, o3, e3, _, y3⟩ := Bytes.cell hc.1 (i := 3) (by simp)
      injection e1 with e1; injection e1 with f1 f2 _
      injection e2 with e2; injection e2 with f3 f4 _
      injection e3 with e3; injection e3 with f5 f6 _
      subst f1 f2 f3 f4 f5 f6
      simp only [List.getElem_cons_zero, List.getElem_cons_succ, Nat.add_zero] at y0 y1 y2 y3
      have l0 : a0.toNat < 256 := a0.toNat_lt
      have l1 : a1.toNat < 256 := a1.toNat_lt
      have l2 : a2.toNat < 256 := a2.toNat_lt
      have l3 : a3.toNat < 256 := a3.toNat_lt
      have H2 := hid h2
      clear hr hc h2
      generalize a0.toNat = z0 at *
      generalize a1.toNat = z1 at *
      generalize a2.toNat = z2 at *
      generalize a3.toNat = z3 at *
      go_wp2
      go_quiet (fail)
      go_wp2
      go_ret2
      exact ⟨⟨0, by rw [E.out]; rfl⟩, H2.out.new ((New.refl _).drewN _), ht.trans (Turn.of_new ((New.refl _).drewN _))⟩

end Go.Proofs.YtdccbceaajnajaaGreat

namespace Go.Proofs.YtdccbceaajnajaaGreat
open Go.RowKit
set_option linter.unusedSimpArgs false
set_option linter.unusedVariables false

theorem rdText_none : rdText none = (ByteArray.empty, none) := rfl
theorem rdText_nil : rdText (some []) = (ByteArray.empty, none) := rfl
theorem rdText_cons (a : UInt8) (l : List UInt8) : rdText (some (a :: l)) = if a.toNat ≤ l.length then (bytesOf (l.take a.toNat), some (l.drop a.toNat)) else (ByteArray.empty, none) := by
  have e : rdSmall (some (a :: l)) = ((a.toNat : Int), some l) := by
    have : rdTake 1 (some (a :: l)) = (some [a], some l) := by simp [rdTake]
    simp [rdSmall, this, valB]
  simp only [rdText, e, Int.toNat_natCast, rdTake]
  split
  · rfl
  · rfl
theorem refTake_at (x : Nat) (m : Int) (n : Nat) (s : RS) (w : World) (hm : m = n) (h : QdAt w x s) (hn : n ≤ 1000) : Calls Tryz.prog 74 #[.pointer (some ⟨x, 0, none⟩), .int .i64 m] w (QTakeBack x n s w) := by
  subst hm; exact refTake_any x n s w h hn

end Go.Proofs.YtdccbceaajnajaaGreat
