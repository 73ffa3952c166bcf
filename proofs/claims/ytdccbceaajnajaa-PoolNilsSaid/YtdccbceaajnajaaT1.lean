/- octet.Reader: what each function takes. -/
import Derived.Test.YtdccbceaajnajaaD6
namespace Go.Proofs.Ytdccbceaajnajaa
open Go.RowKit
set_option linter.unusedSimpArgs false
set_option linter.unusedVariables false

/-- What a reader has: its bytes; none: it is bad. -/
abbrev RS := Option (List UInt8)
def rdTake (n : Nat) (s : RS) : Option (List UInt8) × RS :=
  match s with
  | none => (none, none)
  | some l => if n ≤ l.length then (some (l.take n), some (l.drop n)) else (none, none)

/-- A reader in memory. -/
def RdAt (w : World) (x : Nat) (s : RS) : Prop :=
  ∃ v bad, w.heap[x]? = some (.cells #[.bool true, v, .bool bad] 85 (0, 0)) ∧ (∃ p n c, v = .slice p n c) ∧ match s with | some l => bad = false ∧ Content w v (bytesOf l) | none => bad = true
theorem RdAt.lt {w : World} {x : Nat} {s : RS} (h : RdAt w x s) : x < w.heap.size := by
  obtain ⟨v, bad, h1, _⟩ := h
  exact (Array.getElem?_eq_some_iff.1 h1).1
theorem rd_cells {w : World} {x : Nat} {v : Value} {bad : Bool} (h : w.heap[x]? = some (.cells #[.bool true, v, .bool bad] 85 (0, 0))) :
    w.cell? ⟨x, 0, none⟩ = some (.bool true) ∧ w.cell? ⟨x, 1, none⟩ = some v ∧ w.cell? ⟨x, 2, none⟩ = some (.bool bad) ∧ w.frozen? ⟨x, 1, none⟩ = false ∧ w.frozen? ⟨x, 2, none⟩ = false := by
  refine ⟨?_, ?_, ?_, ?_, ?_⟩
  · simp only [World.cell?, h]; rfl
  · simp only [World.cell?, h]; rfl
  · simp only [World.cell?, h]; rfl
  · simp only [World.frozen?, h]; simp
  · simp only [World.frozen?, h]; simp
theorem rd_apart {w : World} {x : Nat} {v : Value} {bad : Bool} (h : w.heap[x]? = some (.cells #[.bool true, v, .bool bad] 85 (0, 0))) : Apart (· = x) w := by
  intro k c fr hk e
  subst hk
  rw [h] at e
  injection e with e
  injection e with _ e2 _
  cases e2
theorem RdAt.turn {S : Nat → Prop} {w w' : World} {x : Nat} {s : RS} (h : RdAt w x s) (ht : Turn S w w') (hx : ¬ S x) (hS : Apart S w) : RdAt w' x s := by
  have hl := h.lt
  obtain ⟨v, bad, h1, h2, h3⟩ := h
  refine ⟨v, bad, by rw [ht.block x hl hx]; exact h1, h2, ?_⟩
  cases s with
  | none => exact h3
  | some l => exact ⟨h3.1, h3.2.turn ht hS⟩
theorem RdAt.new {w w' : World} {x : Nat} {s : RS} (h : RdAt w x s) (hn : New w w') : RdAt w' x s := h.turn (S := fun _ => False) (Turn.of_new hn) (fun h => h) (apart_none w)
theorem rd_set1 {w : World} {x : Nat} {v : Value} {bad : Bool} (h : w.heap[x]? = some (.cells #[.bool true, v, .bool bad] 85 (0, 0))) (u : Value) : (w.setCell ⟨x, 1, none⟩ u).heap[x]? = some (.cells #[.bool true, u, .bool bad] 85 (0, 0)) :=
  heap_setCell_same w x 1 _ 85 u h
theorem rd_set2 {w : World} {x : Nat} {v : Value} {bad : Bool} (h : w.heap[x]? = some (.cells #[.bool true, v, .bool bad] 85 (0, 0))) : (w.setCell ⟨x, 2, none⟩ (.bool true)).heap[x]? = some (.cells #[.bool true, v, .bool true] 85 (0, 0)) :=
  heap_setCell_same w x 2 _ 85 (.bool true) h
theorem turn_set (w : World) (x o : Nat) (u : Value) : Turn (· = x) w (w.setCell ⟨x, o, none⟩ u) := Turn.setCell (S := (· = x)) (p := ⟨x, o, none⟩) (Turn.refl _ w) rfl u

theorem rdNone_any (x : Nat) (s : RS) (w : World) (h : RdAt w x s) : Calls Try.prog 66 #[.pointer (some ⟨x, 0, none⟩)] w fun e w' => e = .returned (.bool false) ∧ w = w' := by
  obtain ⟨v, bad, h1, _, _⟩ := h
  obtain ⟨c0, _⟩ := rd_cells h1
  clear h1
  go_enter Try.func66, Try.ntmps66
  go_wp2
  go_ret
  exact ⟨rfl, rfl⟩

/-- What take returns. -/
def TakeBack (x n : Nat) (s : RS) (w : World) (e : Ending) (w' : World) : Prop :=
  RdAt w' x (rdTake n s).2 ∧ Turn (· = x) w w' ∧ match (rdTake n s).1 with | none => e = .returned (.tuple #[.slice none 0 0, .int .i64 3]) | some l => ∃ p c, e = .returned (.tuple #[.slice p n c, .int .i64 0]) ∧ Content w' (.slice p n c) (bytesOf l) ∧ l.length = n

theorem bytesOf_extract (l : List UInt8) (a b : Nat) : (bytesOf l).extract a b = bytesOf ((l.take b).drop a) := by
  apply ByteArray.ext
  apply Array.ext'
  simp only [bytesOf, ByteArray.data_extract, Array.toList_extract, List.extract_eq_take_drop]
  rw [List.drop_take]
theorem Content.part {w : World} {p : Option Addr} {n c : Nat} {s : ByteArray} {p' : Option Addr} {n' c' : Nat} {s' : ByteArray} (h : Content w (.slice p n c) s) (h' : Bytes w (.slice p' n' c') s') (hb : ∀ k, (Value.slice p' n' c').ownBlock = some k → (Value.slice p n c).ownBlock = some k) : Content w (.slice p' n' c') s' :=
  ⟨h', fun k hk => h.2 k (hb k hk)⟩

set_option maxHeartbeats 2000000 in
set_option maxRecDepth 100000 in
theorem take_any (x n : Nat) (s : RS) (w : World) (h : RdAt w x s) (hn : n ≤ 1000) : Calls Try.prog 43 #[.pointer (some ⟨x, 0, none⟩), .int .i64 n] w (TakeBack x n s w) := by
  have H := hid h
  obtain ⟨v, bad, h1, ⟨p, m, c, rfl⟩, h3⟩ := h
  obtain ⟨c0, c1, c2, z1, z2⟩ := rd_cells h1
  have H1 := hid h1
  clear h1
  cases s with
  | none =>
    subst h3
    go_enter Try.func43, Try.ntmps43
    go_wp2_with fail
    refine (rdNone_any x _ w H.out).mono ?_
    rintro e w' ⟨rfl, rfl⟩
    go_wp2
    go_ret2
    exact ⟨⟨_, true, rd_set2 H1.out, ⟨_, _, _, rfl⟩, rfl⟩, turn_set w x 2 _, rfl⟩
  | some l =>
    obtain ⟨rfl, hc⟩ := h3
    have hc0 := hc
    obtain ⟨⟨p', c', e, g1, g2, _⟩, _⟩ := hc0
    rw [bytesOf_size] at e g1
    injection e with e1 e2 e3
    subst e1 e2 e3
    unfold maxLen at g2
    have HC := hid hc
    clear hc
    by_cases hle : n ≤ l.length
    case neg =>
      have E : Hid (rdTake n (some l) = (none, none)) := hid (by simp only [rdTake, if_neg hle])
      go_enter Try.func43, Try.ntmps43
      go_wp2_with fail
      refine (rdNone_any x _ w H.out).mono ?_
      rintro e w' ⟨rfl, rfl⟩
      go_wp2
      go_ret2
      refine ⟨?_, turn_set w x 2 _, ?_⟩
      · rw [E.out]; exact ⟨_, true, rd_set2 H1.out, ⟨_, _, _, rfl⟩, rfl⟩
      · rw [E.out]; rfl
    have E : Hid (rdTake n (some l) = (some (l.take n), some (l.drop n))) := hid (by simp only [rdTake, if_pos hle])
    have hlen : (l.take n).length = n := by rw [List.length_take]; omega
    have HLEN := hid hlen
    clear hlen
    cases p with
    | none =>
      have hl0 : l.length = 0 := by
        obtain ⟨_, _, e, _, _, h3⟩ := HC.out.1
        rw [bytesOf_size] at h3
        rcases Nat.eq_zero_or_pos l.length with h | h
        · exact h
        · obtain ⟨b, o, e', _⟩ := h3 h
          injection e with e
          rw [e'] at e; cases e
      have hn0 : n = 0 := by omega
      subst hn0
      have hl : l = [] := List.eq_nil_of_length_eq_zero hl0
      subst hl
      go_enter Try.func43, Try.ntmps43
      go_wp2_with fail
      refine (rdNone_any x _ w H.out).mono ?_
      rintro e w' ⟨rfl, rfl⟩
      go_wp2
      go_ret2
      have ht := turn_set w x 1 (.slice none 0 c)
      have hap := rd_apart H1.out
      have hcz : Content w (.slice none 0 c) (bytesOf []) := HC.out
      refine ⟨?_, ht, ?_⟩
      · rw [E.out]
        exact ⟨_, false, rd_set1 H1.out _, ⟨_, _, _, rfl⟩, rfl, hcz.turn ht hap⟩
      · rw [E.out]
        exact ⟨none, c, rfl, hcz.turn ht hap, rfl⟩
    | some q =>
      have T : Hid (∀ u, Content (w.setCell ⟨x, 1, none⟩ u) (.slice (some q) n c) (bytesOf (l.take n))) := fun u => by
        have hb := Bytes.take (m := n) (by rw [bytesOf_size]; exact HC.out.1) (by rw [bytesOf_size]; exact hle)
        rw [bytesOf_extract, List.drop_zero] at hb
        exact (HC.out.part hb (fun k hk => hk)).turn (turn_set w x 1 u) (rd_apart H1.out)
      by_cases hlt : n < l.length
      · have D : Hid (Content (w.setCell ⟨x, 1, none⟩ (.slice (some (q.add n)) (l.length - n) (c - n))) (.slice (some (q.add n)) (l.length - n) (c - n)) (bytesOf (l.drop n))) := hid (by
          have hb := Bytes.drop (m := n) (by rw [bytesOf_size]; exact HC.out.1) (by rw [bytesOf_size]; exact hlt)
          rw [bytesOf_extract, bytesOf_size, List.take_length] at hb
          exact (HC.out.part hb (fun k hk => by
            have : (q.add n).block = q.block := by unfold Addr.add; split <;> rfl
            simpa [Value.ownBlock, this] using hk)).turn (turn_set w x 1 _) (rd_apart H1.out))
        have hlc : n < c := by omega
        go_enter Try.func43, Try.ntmps43
        go_wp2_with fail
        refine (rdNone_any x _ w H.out).mono ?_
        rintro e w' ⟨rfl, rfl⟩
        go_wp2
        go_ret2
        refine ⟨?_, turn_set w x 1 _, ?_⟩
        · rw [E.out]
          exact ⟨_, false, rd_set1 H1.out _, ⟨_, _, _, rfl⟩, rfl, D.out⟩
        · rw [E.out]
          exact ⟨some q, c, rfl, T.out _, HLEN.out⟩
      · have hnl : n = l.length := by omega
        have hd : l.drop n = [] := List.drop_eq_nil_of_le (by omega)
        have HD : Hid (∀ p' c', c' ≤ maxLen → (∀ k, (Value.slice p' 0 c').ownBlock = some k → (Value.slice (some q) l.length c).ownBlock = some k) → Content (w.setCell ⟨x, 1, none⟩ (.slice p' 0 c')) (.slice p' 0 c') (bytesOf (l.drop n))) := fun p' c' h h' => by
          rw [hd]
          exact (HC.out.part (Bytes.none_left w p' c' h) h').turn (turn_set w x 1 _) (rd_apart H1.out)
        have HNL := hid hnl
        clear hnl
        by_cases hcn : n < c
        · have hz : l.length - n = 0 := by omega
          go_enter Try.func43, Try.ntmps43
          go_wp2_with fail
          refine (rdNone_any x _ w H.out).mono ?_
          rintro e w' ⟨rfl, rfl⟩
          go_wp2
          go_ret2
          refine ⟨?_, turn_set w x 1 _, ?_⟩
          · rw [E.out]
            exact ⟨_, false, rd_set1 H1.out _, ⟨_, _, _, rfl⟩, rfl, HD.out _ _ (by unfold maxLen; omega) (fun k hk => by
              have : (q.add n).block = q.block := by unfold Addr.add; split <;> rfl
              simpa [Value.ownBlock, this] using hk)⟩
          · rw [E.out]
            exact ⟨some q, c, rfl, T.out _, HLEN.out⟩
        · have hz : l.length - n = 0 := by omega
          have hcz : c - n = 0 := by omega
          go_enter Try.func43, Try.ntmps43
          go_wp2_with fail
          refine (rdNone_any x _ w H.out).mono ?_
          rintro e w' ⟨rfl, rfl⟩
          go_wp2
          go_ret2
          refine ⟨?_, turn_set w x 1 _, ?_⟩
          · rw [E.out]
            exact ⟨_, false, rd_set1 H1.out _, ⟨_, _, _, rfl⟩, rfl, HD.out _ _ (by unfold maxLen; omega) (fun k hk => hk)⟩
          · rw [E.out]
            exact ⟨some q, c, rfl, T.out _, HLEN.out⟩

end Go.Proofs.Ytdccbceaajnajaa
