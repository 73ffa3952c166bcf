/- The specification's reader of bytes (progenyref01): take, Small, Number, Text, NewReader. -/
import Derived.Test.YtdccbceaajnajaaT2
import Derived.Test.YtdccbceaajnajaaA13
namespace Go.Proofs.Ytdccbceaajnajaa
open Go.RowKit
set_option linter.unusedSimpArgs false
set_option linter.unusedVariables false

/-- A reader in memory. -/
def QdAt (w : World) (x : Nat) (s : RS) : Prop :=
  ∃ v bad, w.heap[x]? = some (.cells #[v, .bool bad] 87 (0, 0)) ∧ (∃ p n c, v = .slice p n c) ∧ match s with | some l => bad = false ∧ Content w v (bytesOf l) | none => bad = true
theorem QdAt.lt {w : World} {x : Nat} {s : RS} (h : QdAt w x s) : x < w.heap.size := by
  obtain ⟨v, bad, h1, _⟩ := h
  exact (Array.getElem?_eq_some_iff.1 h1).1
theorem qd_cells {w : World} {x : Nat} {v : Value} {bad : Bool} (h : w.heap[x]? = some (.cells #[v, .bool bad] 87 (0, 0))) :
    w.cell? ⟨x, 0, none⟩ = some v ∧ w.cell? ⟨x, 1, none⟩ = some (.bool bad) ∧ w.frozen? ⟨x, 0, none⟩ = false ∧ w.frozen? ⟨x, 1, none⟩ = false := by
  refine ⟨?_, ?_, ?_, ?_⟩
  · simp only [World.cell?, h]; rfl
  · simp only [World.cell?, h]; rfl
  · simp only [World.frozen?, h]; simp
  · simp only [World.frozen?, h]; simp
theorem qd_apart {w : World} {x : Nat} {v : Value} {bad : Bool} (h : w.heap[x]? = some (.cells #[v, .bool bad] 87 (0, 0))) : Apart (· = x) w := by
  intro k c fr hk e
  subst hk
  rw [h] at e
  injection e with e
  injection e with _ e2 _
  cases e2
theorem QdAt.turn {S : Nat → Prop} {w w' : World} {x : Nat} {s : RS} (h : QdAt w x s) (ht : Turn S w w') (hx : ¬ S x) (hS : Apart S w) : QdAt w' x s := by
  have hl := h.lt
  obtain ⟨v, bad, h1, h2, h3⟩ := h
  refine ⟨v, bad, by rw [ht.block x hl hx]; exact h1, h2, ?_⟩
  cases s with
  | none => exact h3
  | some l => exact ⟨h3.1, h3.2.turn ht hS⟩
theorem QdAt.new {w w' : World} {x : Nat} {s : RS} (h : QdAt w x s) (hn : New w w') : QdAt w' x s := h.turn (S := fun _ => False) (Turn.of_new hn) (fun h => h) (apart_none w)
theorem qd_set0 {w : World} {x : Nat} {v : Value} {bad : Bool} (h : w.heap[x]? = some (.cells #[v, .bool bad] 87 (0, 0))) (u : Value) : (w.setCell ⟨x, 0, none⟩ u).heap[x]? = some (.cells #[u, .bool bad] 87 (0, 0)) :=
  heap_setCell_same w x 0 _ 87 u h
theorem qd_set1 {w : World} {x : Nat} {v : Value} {bad : Bool} (h : w.heap[x]? = some (.cells #[v, .bool bad] 87 (0, 0))) : (w.setCell ⟨x, 1, none⟩ (.bool true)).heap[x]? = some (.cells #[v, .bool true] 87 (0, 0)) :=
  heap_setCell_same w x 1 _ 87 (.bool true) h
/-- What take returns. -/
def QTakeBack (x n : Nat) (s : RS) (w : World) (e : Ending) (w' : World) : Prop :=
  QdAt w' x (rdTake n s).2 ∧ Turn (· = x) w w' ∧ match (rdTake n s).1 with | none => e = .returned (.tuple #[.slice none 0 0, .bool false]) | some l => ∃ p c, e = .returned (.tuple #[.slice p n c, .bool true]) ∧ Content w' (.slice p n c) (bytesOf l) ∧ l.length = n

set_option maxHeartbeats 2000000 in
set_option maxRecDepth 100000 in
theorem refTake_any (x n : Nat) (s : RS) (w : World) (h : QdAt w x s) (hn : n ≤ 1000) : Calls Try.prog 44 #[.pointer (some ⟨x, 0, none⟩), .int .i64 n] w (QTakeBack x n s w) := by
  have H := hid h
  obtain ⟨v, bad, h1, ⟨p, m, c, rfl⟩, h3⟩ := h
  obtain ⟨c1, c2, z1, z2⟩ := qd_cells h1
  have H1 := hid h1
  clear h1
  cases s with
  | none =>
    subst h3
    go_enter Try.func44, Try.ntmps44
    go_wp2
    go_ret2
    exact ⟨⟨_, true, qd_set1 H1.out, ⟨_, _, _, rfl⟩, rfl⟩, turn_set w x 1 _, rfl⟩
  | some l =>
    obtain ⟨rfl, hc⟩ := h3
    have hc0 := hc
    obtain ⟨⟨p', c', e, g1, g2, _⟩, _⟩ := hc0
    rw [bytesOf_size] at e g1
    injection e with e1 e2 e3
    subst e1 e2 e3
    unfold maxLen at g2
    have HC := hid hc
    clear hc
    by_cases hle : n ≤ l.length
    case neg =>
      have E : Hid (rdTake n (some l) = (none, none)) := hid (by simp only [rdTake, if_neg hle])
      go_enter Try.func44, Try.ntmps44
      go_wp2
      go_ret2
      refine ⟨?_, turn_set w x 1 _, ?_⟩
      · rw [E.out]; exact ⟨_, true, qd_set1 H1.out, ⟨_, _, _, rfl⟩, rfl⟩
      · rw [E.out]; rfl
    have E : Hid (rdTake n (some l) = (some (l.take n), some (l.drop n))) := hid (by simp only [rdTake, if_pos hle])
    have hlen : (l.take n).length = n := by rw [List.length_take]; omega
    have HLEN := hid hlen
    clear hlen
    cases p with
    | none =>
      have hl0 : l.length = 0 := by
        obtain ⟨_, _, e, _, _, h3⟩ := HC.out.1
        rw [bytesOf_size] at h3
        rcases Nat.eq_zero_or_pos l.length with h | h
        · exact h
        · obtain ⟨b, o, e', _⟩ := h3 h
          injection e with e
          rw [e'] at e; cases e
      have hn0 : n = 0 := by omega
      subst hn0
      have hl : l = [] := List.eq_nil_of_length_eq_zero hl0
      subst hl
      go_enter Try.func44, Try.ntmps44
      go_wp2
      go_ret2
      have ht := turn_set w x 0 (.slice none 0 c)
      have hap := qd_apart H1.out
      have hcz : Content w (.slice none 0 c) (bytesOf []) := HC.out
      refine ⟨?_, ht, ?_⟩
      · rw [E.out]
        exact ⟨_, false, qd_set0 H1.out _, ⟨_, _, _, rfl⟩, rfl, hcz.turn ht hap⟩
      · rw [E.out]
        exact ⟨none, c, rfl, hcz.turn ht hap, rfl⟩
    | some q =>
      have T : Hid (∀ u, Content (w.setCell ⟨x, 0, none⟩ u) (.slice (some q) n c) (bytesOf (l.take n))) := fun u => by
        have hb := Bytes.take (m := n) (by rw [bytesOf_size]; exact HC.out.1) (by rw [bytesOf_size]; exact hle)
        rw [bytesOf_extract, List.drop_zero] at hb
        exact (HC.out.part hb (fun k hk => hk)).turn (turn_set w x 0 u) (qd_apart H1.out)
      by_cases hlt : n < l.length
      · have D : Hid (Content (w.setCell ⟨x, 0, none⟩ (.slice (some (q.add n)) (l.length - n) (c - n))) (.slice (some (q.add n)) (l.length - n) (c - n)) (bytesOf (l.drop n))) := hid (by
          have hb := Bytes.drop (m := n) (by rw [bytesOf_size]; exact HC.out.1) (by rw [bytesOf_size]; exact hlt)
          rw [bytesOf_extract, bytesOf_size, List.take_length] at hb
          exact (HC.out.part hb (fun k hk => by
            have : (q.add n).block = q.block := by unfold Addr.add; split <;> rfl
            simpa [Value.ownBlock, this] using hk)).turn (turn_set w x 0 _) (qd_apart H1.out))
        have hlc : n < c := by omega
        go_enter Try.func44, Try.ntmps44
        go_wp2
        go_ret2
        refine ⟨?_, turn_set w x 0 _, ?_⟩
        · rw [E.out]
          exact ⟨_, false, qd_set0 H1.out _, ⟨_, _, _, rfl⟩, rfl, D.out⟩
        · rw [E.out]
          exact ⟨some q, c, rfl, T.out _, HLEN.out⟩
      · have hnl : n = l.length := by omega
        have hd : l.drop n = [] := List.drop_eq_nil_of_le (by omega)
        have HD : Hid (∀ p' c', c' ≤ maxLen → (∀ k, (Value.slice p' 0 c').ownBlock = some k → (Value.slice (some q) l.length c).ownBlock = some k) → Content (w.setCell ⟨x, 0, none⟩ (.slice p' 0 c')) (.slice p' 0 c') (bytesOf (l.drop n))) := fun p' c' h h' => by
          rw [hd]
          exact (HC.out.part (Bytes.none_left w p' c' h) h').turn (turn_set w x 0 _) (qd_apart H1.out)
        have HNL := hid hnl
        clear hnl
        by_cases hcn : n < c
        · have hz : l.length - n = 0 := by omega
          go_enter Try.func44, Try.ntmps44
          go_wp2
          go_ret2
          refine ⟨?_, turn_set w x 0 _, ?_⟩
          · rw [E.out]
            exact ⟨_, false, qd_set0 H1.out _, ⟨_, _, _, rfl⟩, rfl, HD.out _ _ (by unfold maxLen; omega) (fun k hk => by
              have : (q.add n).block = q.block := by unfold Addr.add; split <;> rfl
              simpa [Value.ownBlock, this] using hk)⟩
          · rw [E.out]
            exact ⟨some q, c, rfl, T.out _, HLEN.out⟩
        · have hz : l.length - n = 0 := by omega
          have hcz : c - n = 0 := by omega
          go_enter Try.func44, Try.ntmps44
          go_wp2
          go_ret2
          refine ⟨?_, turn_set w x 0 _, ?_⟩
          · rw [E.out]
            exact ⟨_, false, qd_set0 H1.out _, ⟨_, _, _, rfl⟩, rfl, HD.out _ _ (by unfold maxLen; omega) (fun k hk => hk)⟩
          · rw [E.out]
            exact ⟨some q, c, rfl, T.out _, HLEN.out⟩

def QBack (x : Nat) (v : Value) (s : RS) (w : World) (e : Ending) (w' : World) : Prop := (∃ er : Int, e = .returned (.tuple #[v, .int .i64 er])) ∧ QdAt w' x s ∧ Turn (· = x) w w'

set_option maxHeartbeats 1000000 in
theorem refNumber_any (x : Nat) (s : RS) (w : World) (h : QdAt w x s) : Calls Try.prog 28 #[.pointer (some ⟨x, 0, none⟩)] w (QBack x (.int .i64 (rdNum s).1) (rdNum s).2 w) := by
  go_enter Try.func28, Try.ntmps28
  go_wp2_with fail
  refine (refTake_any x 4 s w h (by omega)).mono ?_
  rintro e w2 ⟨h2, ht, h3⟩
  cases hr : (rdTake 4 s).1 with
  | none =>
    rw [hr] at h3
    subst h3
    have E : Hid ((rdNum s).1 = 0) := hid (by simp [rdNum, hr, valB])
    clear hr
    go_wp2
    go_ret2
    exact ⟨⟨3, by rw [E.out]; rfl⟩, h2, ht⟩
  | some l =>
    rw [hr] at h3
    obtain ⟨p, c, rfl, hc, hlen⟩ := h3
    match l, hlen with
    | [a0, a1, a2, a3], _ =>
      have E : Hid ((rdNum s).1 = (((a0.toNat : Int) * 256 + a1.toNat) * 256 + a2.toNat) * 256 + a3.toNat) := hid (by simp [rdNum, hr, valB])
      obtain ⟨b, o, rfl, hb, y0⟩ := Bytes.cell hc.1 (i := 0) (by simp)
      obtain ⟨b1, o1, e1, _, y1⟩ := Bytes.cell hc.1 (i := 1) (by simp)
      obtain ⟨b2, o2, e2, _, y2⟩ := Bytes.cell hc.1 (i := 2) (by simp)
      obtain ⟨b3, o3, e3, _, y3⟩ := Bytes.cell hc.1 (i := 3) (by simp)
      injection e1 with e1; injection e1 with f1 f2 _
      injection e2 with e2; injection e2 with f3 f4 _
      injection e3 with e3; injection e3 with f5 f6 _
      subst f1 f2 f3 f4 f5 f6
      simp only [List.getElem_cons_zero, List.getElem_cons_succ, Nat.add_zero] at y0 y1 y2 y3
      have l0 : a0.toNat < 256 := a0.toNat_lt
      have l1 : a1.toNat < 256 := a1.toNat_lt
      have l2 : a2.toNat < 256 := a2.toNat_lt
      have l3 : a3.toNat < 256 := a3.toNat_lt
      have H2 := hid h2
      clear hr hc h2
      generalize a0.toNat = z0 at *
      generalize a1.toNat = z1 at *
      generalize a2.toNat = z2 at *
      generalize a3.toNat = z3 at *
      go_wp2
      go_quiet (fail)
      go_wp2
      go_ret2
      exact ⟨⟨0, by rw [E.out]; rfl⟩, H2.out.new ((New.refl _).drewN _), ht.trans (Turn.of_new ((New.refl _).drewN _))⟩

end Go.Proofs.Ytdccbceaajnajaa
