/- The log in memory: its words, and the small functions that only look at it. A record appended to a row of records; tape.Tape.Append. tape.Tape.Append where the record goes onto the log. -/
import Derived.Test.YtdccbceaajnajaaGreatD4
import Derived.Test.YtdccbceaajnajaaGreatD45
import Derived.Deep.RegionLaw
namespace Go.Proofs.YtdccbceaajnajaaGreat
open Go.RowKit
set_option linter.unusedSimpArgs false
set_option linter.unusedVariables false

/-- The cells of a list of records; P says what lies of a record's parts. -/
def RecCells (P : Rec → Value → Value → Value → Prop) (l : List Rec) (xs : List Value) : Prop :=
  xs.length = l.length * 10 ∧ ∀ i (h : i < l.length), ∃ bv av uv, P l[i] bv av uv ∧ ∀ j, j < 10 → xs[i * 10 + j]? = (recCells l[i] bv av uv)[j]?
theorem RecCells.imp {P Q : Rec → Value → Value → Value → Prop} {l : List Rec} {xs : List Value} (h : RecCells P l xs) (hPQ : ∀ r b a u, P r b a u → Q r b a u) : RecCells Q l xs :=
  ⟨h.1, fun i hi => by obtain ⟨b, a, u, h1, h2⟩ := h.2 i hi; exact ⟨b, a, u, hPQ _ _ _ _ h1, h2⟩⟩
theorem RecCells.nil (P : Rec → Value → Value → Value → Prop) : RecCells P [] [] := ⟨rfl, fun i h => absurd h (Nat.not_lt_zero _)⟩
theorem RecCells.snoc {P : Rec → Value → Value → Value → Prop} {l : List Rec} {xs : List Value} (h : RecCells P l xs) {r : Rec} {b a u : Value} (hr : P r b a u) : RecCells P (l ++ [r]) (xs ++ (recCells r b a u).toList) := by
  obtain ⟨h0, h1⟩ := h
  refine ⟨by rw [List.length_append, List.length_append, h0]; simp; omega, fun i hi => ?_⟩
  rcases Nat.lt_or_ge i l.length with hlt | hge
  · obtain ⟨b', a', u', e1, e2⟩ := h1 i hlt
    refine ⟨b', a', u', by rw [List.getElem_append_left hlt]; exact e1, fun j hj => ?_⟩
    rw [List.getElem_append_left hlt, List.getElem?_append_left (by rw [h0]; omega)]
    exact e2 j hj
  · obtain rfl : i = l.length := by simp at hi; omega
    refine ⟨b, a, u, by simpa using hr, fun j hj => ?_⟩
    rw [List.getElem?_append_right (by rw [h0]; omega), h0, show l.length * 10 + j - l.length * 10 = j by omega]
    simp

/-- What a log is. -/
structure ATape where
  recs : List Rec
  forced : Nat
  late : Bool
/-- A log lies at block tb, its row of records at block ot; its disk at block b. -/
def TapeAt (w : World) (tb : Nat) (ot : Option Nat) (b : Nat) (T : ATape) : Prop :=
  ∃ v, w.heap[tb]? = some (.cells #[.pointer (some ⟨b, 0, none⟩), v, .int .i64 (T.forced : Int), .bool T.late] 87 (0, 0)) ∧ v.ownBlock = ot ∧ ∃ xs, w.ownsRow 0 70 10 v T.recs.length xs ∧ RecCells (RecIn w) T.recs xs
theorem TapeAt.turn {S : Nat → Prop} {w w' : World} {tb b : Nat} {ot : Option Nat} {T : ATape} (h : TapeAt w tb ot b T) (ht : Turn S w w') (h1 : ¬ S tb) (h2 : ∀ k, ot = some k → ¬ S k) (h5 : Apart S w) (h90 : Apart90 S w) : TapeAt w' tb ot b T := by
  obtain ⟨v, e1, e2, xs, e3, e4⟩ := h
  exact ⟨v, by rw [ht.block tb (Array.getElem?_eq_some_iff.1 e1).1 h1]; exact e1, e2, xs, own_turn e3 ht (fun k hk => h2 k (e2 ▸ hk)), e4.imp fun r _ _ _ hr => hr.turn ht h5 h90⟩
theorem TapeAt.new {w w' : World} {tb b : Nat} {ot : Option Nat} {T : ATape} (h : TapeAt w tb ot b T) (hn : New w w') : TapeAt w' tb ot b T :=
  h.turn (S := fun _ => False) (Turn.of_new hn) (fun h => h) (fun _ _ h => h) (apart_none w) (apart90_none w)
theorem TapeAt.lt {w : World} {tb b : Nat} {ot : Option Nat} {T : ATape} (h : TapeAt w tb ot b T) : tb < w.heap.size := by
  obtain ⟨v, e1, _⟩ := h; exact (Array.getElem?_eq_some_iff.1 e1).1
theorem TapeAt.row {w : World} {tb b : Nat} {ot : Option Nat} {T : ATape} (h : TapeAt w tb ot b T) {k : Nat} (hk : ot = some k) : ∃ c, w.heap[k]? = some (.cells c 70 (0, 0)) := by
  obtain ⟨v, e1, e2, xs, e3, e4⟩ := h
  rw [← e2] at hk
  rcases e3.2 with ⟨e, _⟩ | ⟨g, cap, cur, e, hg, hh, r⟩
  · rw [e] at hk; simp [Value.ownBlock] at hk
  · rw [e] at hk
    simp only [Value.ownBlock, Option.some.injEq] at hk
    subst hk
    exact ⟨_, hh⟩

/-- A disk, and the log on it, both made since w0. -/
structure Log (w0 w : World) (b : Nat) (ow : Option Nat) (tb : Nat) (ot : Option Nat) (A : ADisk) (T : ATape) : Prop where
  disk : DiskAt w b ow A
  tape : TapeAt w tb ot b T
  new : New w0 w
  bb : w0.heap.size ≤ b
  oo : ∀ k, ow = some k → w0.heap.size ≤ k
  tt : w0.heap.size ≤ tb
  rr : ∀ k, ot = some k → w0.heap.size ≤ k
theorem Log.newer {w0 w w' : World} {b tb : Nat} {ow ot : Option Nat} {A : ADisk} {T : ATape} (h : Log w0 w b ow tb ot A T) (hn : New w w') : Log w0 w' b ow tb ot A T :=
  { h with disk := h.disk.new hn, tape := h.tape.new hn, new := h.new.trans hn }
theorem its_apart {w : World} {b : Nat} {ow : Option Nat} {A : ADisk} (h : DiskAt w b ow A) : Apart (its b ow) w ∧ Apart90 (its b ow) w := by
  refine ⟨h.apart, fun k c fr hk e => ?_⟩
  obtain ⟨c', t, e', ht⟩ := h.typed hk
  rw [e] at e'
  injection e' with e'
  injection e' with _ e2 _
  rcases ht with rfl | rfl <;> exact absurd e2 (by decide)
theorem its_not {w : World} {b : Nat} {ow : Option Nat} {A : ADisk} (h : DiskAt w b ow A) {k : Nat} {c : Array Value} {t : TypeId} {fr : Nat × Nat} (hk : w.heap[k]? = some (.cells c t fr)) (h1 : t ≠ 80) (h2 : t ≠ 111) : ¬ its b ow k := by
  intro hs
  obtain ⟨c', t', e', ht⟩ := h.typed hs
  rw [hk] at e'
  injection e' with e'
  injection e' with _ e2 _
  rcases ht with rfl | rfl
  · exact h1 e2
  · exact h2 e2
/-- A call that has moved the disk alone. -/
theorem Log.moved {w0 w w' : World} {b tb : Nat} {ow ot : Option Nat} {A A' : ADisk} {T : ATape} {v : Value} {e : Ending} (h : Log w0 w b ow tb ot A T) (hm : DiskMoved b ow v A' w e w') : ∃ ow', e = .returned v ∧ Log w0 w' b ow' tb ot A' T ∧ Turn (its b ow) w w' ∧ (∀ k, ow' = some k → ow = some k ∨ w.heap.size ≤ k) := by
  obtain ⟨he, ow', h1, h2, h3⟩ := hm
  have h3' : Turn (its b ow) w w' := h3
  obtain ⟨a5, a90⟩ := its_apart h.disk
  have t1 := h.tape
  obtain ⟨v1, e1, _⟩ := t1
  refine ⟨ow', he, ⟨h1, h.tape.turn h3' (its_not h.disk e1 (by decide) (by decide)) (fun k hk => ?_) a5 a90, ?_, h.bb, fun k hk => ?_, h.tt, h.rr⟩, h3', h2⟩
  · obtain ⟨c, hc⟩ := h.tape.row hk
    exact its_not h.disk hc (by decide) (by decide)
  · refine h.new.turn h3' (fun k hk hs => ?_)
    rcases hs with rfl | hs
    · have := h.bb; omega
    · have := h.oo k hs; omega
  · rcases h2 k hk with h4 | h4
    · exact h.oo k h4
    · have := h.new.size; omega

theorem tape_cells {w : World} {tb b : Nat} {ot : Option Nat} {T : ATape} (h : TapeAt w tb ot b T) : ∃ p c, (∀ o, w.cell? ⟨tb, o, none⟩ = #[.pointer (some ⟨b, 0, none⟩), .slice p T.recs.length c, .int .i64 (T.forced : Int), .bool T.late][o]?) ∧ (∀ o, w.frozen? ⟨tb, o, none⟩ = false) := by
  obtain ⟨v, e1, e2, xs, e3, e4⟩ := h
  obtain ⟨p, c, rfl⟩ := own_len e3
  exact ⟨p, c, cells_of e1, frozen_of e1⟩
theorem tnone_no (tb b : Nat) (w : World) (h : w.cell? ⟨tb, 0, none⟩ = some (.pointer (some ⟨b, 0, none⟩))) : Calls Tryz.prog 43 #[.pointer (some ⟨tb, 0, none⟩)] w fun e w' => e = .returned (.bool false) ∧ w = w' := by
  go_enter Tryz.func43, Tryz.ntmps43
  go_wp2
  go_ret
  exact ⟨rfl, rfl⟩
theorem last_any (tb : Nat) (ot : Option Nat) (b : Nat) (T : ATape) (w : World) (h : TapeAt w tb ot b T) : Calls Tryz.prog 54 #[.pointer (some ⟨tb, 0, none⟩)] w fun e w' => e = .returned (.int .i64 (T.recs.length : Int)) ∧ w = w' := by
  obtain ⟨p, c, hc, hf⟩ := tape_cells h
  clear h
  go_enter Tryz.func54, Tryz.ntmps54
  go_wp2_with fail
  refine (tnone_no tb b w (hc 0)).mono ?_
  rintro e w' ⟨rfl, rfl⟩
  go_wp2
  go_ret
  exact ⟨rfl, rfl⟩
theorem forced_any (tb : Nat) (ot : Option Nat) (b : Nat) (T : ATape) (w : World) (h : TapeAt w tb ot b T) : Calls Tryz.prog 13 #[.pointer (some ⟨tb, 0, none⟩)] w fun e w' => e = .returned (.int .i64 (T.forced : Int)) ∧ w = w' := by
  obtain ⟨p, c, hc, hf⟩ := tape_cells h
  clear h
  go_enter Tryz.func13, Tryz.ntmps13
  go_wp2_with fail
  refine (tnone_no tb b w (hc 0)).mono ?_
  rintro e w' ⟨rfl, rfl⟩
  go_wp2
  go_ret
  exact ⟨rfl, rfl⟩
theorem free_any (tb : Nat) (ot : Option Nat) (b : Nat) (T : ATape) (w : World) (h : TapeAt w tb ot b T) (hl : T.recs.length ≤ 1000000) : Calls Tryz.prog 61 #[.pointer (some ⟨tb, 0, none⟩)] w fun e w' => e = .returned (.int .i64 (3000 - (T.recs.length : Int))) ∧ w = w' := by
  obtain ⟨p, c, hc, hf⟩ := tape_cells h
  clear h
  go_enter Tryz.func61, Tryz.ntmps61
  go_wp2_with fail
  refine (tnone_no tb b w (hc 0)).mono ?_
  rintro e w' ⟨rfl, rfl⟩
  go_wp2
  go_ret
  exact ⟨rfl, rfl⟩

end Go.Proofs.YtdccbceaajnajaaGreat

namespace Go.Proofs.YtdccbceaajnajaaGreat
open Go.RowKit
set_option linter.unusedSimpArgs false
set_option linter.unusedVariables false

theorem info25 : (Tryz.prog.info? 70).map (fun i => (i.zero, i.size, i.bytes)) = some (some (.agg #[.int .i64 0, .int .i64 0, .int .i64 0, .int .i64 0, .slice none 0 0, .slice none 0 0, .int .i64 0, .int .i64 0, .string ByteArray.empty, .slice none 0 0]), 10, 136) := by kernel_rfl
theorem recCells_one {r : Rec} {p1 p2 p3 : Option Addr} {n1 c1 n2 c2 n3 c3 : Nat} : ∀ u ∈ (recCells r (.slice p1 n1 c1) (.slice p2 n2 c2) (.slice p3 n3 c3)).toList, u.oneCell' = true := by
  intro u hu
  simp at hu
  rcases hu with rfl | rfl | rfl | rfl | rfl | rfl | rfl | rfl | rfl | rfl <;> rfl
set_option maxRecDepth 10000 in
/-- append(l, r), as a step of a region that draws. -/
theorem step_rec {ops : Array Oper} {o : Oper} {a : Act} {w : World} {K : Act → World → Prop} {Q : Exit → Act → World → Prop} {E : Prop} (hgd : o.guard = none) (sl x : Operand)
    (ho : o.op = .call { callee := .builtin .append, args := #[sl, x], argTypes := #[85, 85] })
    (v : Value) (n : Nat) (xs : List Value) (hs : a.eval sl = v) (base : Nat) (hown : w.ownsRow base 70 10 v n xs) (hbase : base ≤ w.heap.size) (k : Nat) (r : Rec) (p1 p2 p3 : Option Addr) (n1 c1 n2 c2 n3 c3 : Nat) (hx : a.eval x = .slice (some ⟨k, 0, none⟩) 1 1)
    (hc : ∀ i, w.cell? ⟨k, i, none⟩ = (recCells r (.slice p1 n1 c1) (.slice p2 n2 c2) (.slice p3 n3 c3))[i]?) (hb : n ≤ 1000000)
    (h : ∀ g cap w', w'.ownsRow base 70 10 (.slice (some ⟨g, 0, none⟩) (n + 1) cap) (n + 1) (xs ++ (recCells r (.slice p1 n1 c1) (.slice p2 n2 c2) (.slice p3 n3 c3)).toList) → w.grownBy w' v.ownBlock → (v.ownBlock = some g ∨ g = w.heap.size) → K (a.put o.dst (.slice (some ⟨g, 0, none⟩) (n + 1) cap)) w') :
    if Region.wanted o (yielded ops a.tmps) = true then Oper.wp Tryz.prog o a w K Q else E := by
  obtain ⟨i0, hi, hz0, hz1, hz2⟩ := info_parts info25
  refine step_append_lies w hgd sl x 85 ho base 70 i0 _ 10 136 Tryz.underlying85 hi hz0 hz1 hz2 rfl (by decide) v n xs hs hown ⟨k, 0, none⟩ 1 1 (recCells r (.slice p1 n1 c1) (.slice p2 n2 c2) (.slice p3 n3 c3)).toList hx rfl (fun j u hj => ?_) recCells_one (by omega) (by unfold maxLen; omega) (by omega) hbase _ rfl fun g cap w' h1 h2 h3 _ => h g cap w' h1 h2 h3
  have e : (⟨k, 0, none⟩ : Addr).add j = ⟨k, j, none⟩ := by unfold Addr.add; split <;> simp_all
  rw [e, hc j, ← hj, Array.getElem?_toList]
set_option maxRecDepth 10000 in
/-- append(l, r). -/
theorem app_rec {ops : Array Oper} {rest : List Oper} {o : Oper} {a : Act} {w : World} {Q : Exit → Act → World → Prop} (hgd : o.guard = none) (sl x : Operand)
    (ho : o.op = .call { callee := .builtin .append, args := #[sl, x], argTypes := #[85, 85] })
    (v : Value) (n : Nat) (xs : List Value) (hs : a.eval sl = v) (base : Nat) (hown : w.ownsRow base 70 10 v n xs) (hbase : base ≤ w.heap.size) (k : Nat) (r : Rec) (p1 p2 p3 : Option Addr) (n1 c1 n2 c2 n3 c3 : Nat) (hx : a.eval x = .slice (some ⟨k, 0, none⟩) 1 1)
    (hc : ∀ i, w.cell? ⟨k, i, none⟩ = (recCells r (.slice p1 n1 c1) (.slice p2 n2 c2) (.slice p3 n3 c3))[i]?) (hb : n ≤ 1000000)
    (h : ∀ v' w', w'.ownsRow base 70 10 v' (n + 1) (xs ++ (recCells r (.slice p1 n1 c1) (.slice p2 n2 c2) (.slice p3 n3 c3)).toList) → w.grownBy w' v.ownBlock → (v'.ownBlock = v.ownBlock ∨ v'.ownBlock = some w.heap.size) → wpList Tryz.prog ops Q rest (a.put o.dst v') w') : wpList Tryz.prog ops Q (o :: rest) a w := by
  obtain ⟨i0, hi, hz0, hz1, hz2⟩ := info_parts info25
  refine wpList_append_own_at w hgd sl x 85 ho base 70 i0 _ 10 136 Tryz.underlying85 hi hz0 hz1 hz2 rfl (by decide) v n xs hs hown ⟨k, 0, none⟩ 1 1 (recCells r (.slice p1 n1 c1) (.slice p2 n2 c2) (.slice p3 n3 c3)).toList hx rfl (fun j u hj => ?_) recCells_one (by unfold maxLen; omega) (by omega) hbase fun v' w' h1 h2 _ h4 => h v' w' h1 h2 h4
  have e : (⟨k, 0, none⟩ : Addr).add j = ⟨k, j, none⟩ := by unfold Addr.add; split <;> simp_all
  rw [e, hc j, ← hj, Array.getElem?_toList]

/-! What the calls make of a log. -/
def fullB (T : ATape) : Bool := decide (T.recs.length = 3000)
/-- What Append returns, and what it leaves, where the disk is up and not armed. -/
def appendE (T : ATape) (r : Rec) : Int := if !validB r then 2 else if T.recs.length = 3000 then 8 else 0
def appendN (T : ATape) (r : Rec) : Int := if appendE T r = 0 then (T.recs.length : Int) + 1 else 0
def appendT (T : ATape) (r : Rec) : ATape := if appendE T r = 0 then { T with recs := T.recs ++ [r], late := true } else T
def appendA (A : ADisk) (T : ATape) (r : Rec) : ADisk := if appendE T r = 0 then writeA A (120 + (T.recs.length : Int)) (bytesOf (encB ((T.recs.length : Int) + 1) r)) else A

theorem disk_no_u8 {w : World} {b : Nat} {ow : Option Nat} {A : ADisk} (h : DiskAt w b ow A) (i : Nat) (n : Int) : w.cell? ⟨b, i, none⟩ ≠ some (.int .u8 n) := by
  obtain ⟨f, ⟨cs, h1, h2, h3⟩, hd⟩ := h
  rcases Nat.lt_or_ge i 3126 with hi | hi
  · have hc : w.cell? ⟨b, i, none⟩ = some (f i) := Raw.cell ⟨cs, h1, h2, h3⟩ i hi
    rw [hc]
    intro e
    injection e with e
    rcases Nat.lt_or_ge i 1 with h1 | h1
    · rw [show i = 0 by omega, hd.made] at e; cases e
    rcases Nat.lt_or_ge i 3121 with h2 | h2
    · have := (hd.safe (i - 1) (by omega)).1
      rw [show 1 + (i - 1) = i by omega, e] at this
      obtain ⟨p, c, e2, _⟩ := this
      cases e2
    rcases Nat.lt_or_ge i 3122 with h3 | h3
    · obtain ⟨p, c, e2, _⟩ := waits_slice hd.waits
      rw [show i = 3121 by omega, e2] at e; cases e
    rcases Nat.lt_or_ge i 3123 with h4 | h4
    · rw [show i = 3122 by omega, hd.down] at e; cases e
    rcases Nat.lt_or_ge i 3124 with h5 | h5
    · rw [show i = 3123 by omega, hd.armed] at e; cases e
    rcases Nat.lt_or_ge i 3125 with h6 | h6
    · rw [show i = 3124 by omega, hd.acts] at e; cases e
    · rw [show i = 3125 by omega, hd.falls] at e; cases e
  · simp only [World.cell?, h1]
    rw [Array.getElem?_eq_none (by omega)]
    exact fun e => by cases e
theorem bytes_not_disk {w : World} {b : Nat} {ow : Option Nat} {A : ADisk} (h : DiskAt w b ow A) {v : Value} {s : ByteArray} (hv : Bytes w v s) : 0 < s.size → ∀ k, v.ownBlock = some k → ¬ k = b := by
  intro h0 k hk e
  subst e
  obtain ⟨p, c, rfl, _, _, h3⟩ := hv
  obtain ⟨b', o, rfl, hb, hc⟩ := h3 h0
  simp only [Value.ownBlock, Option.some.injEq] at hk
  subst hk
  have := hc 0 (by rw [byteVals_length]; exact h0)
  rw [byteVals_getD s 0 h0] at this
  exact disk_no_u8 h _ _ this

/-- The blocks of a disk and of the log on it. -/
def logs (b : Nat) (ow : Option Nat) (tb : Nat) (ot : Option Nat) : Nat → Prop := fun k => its b ow k ∨ k = tb ∨ ot = some k
theorem encB_small {r : Rec} {n : Int} (h : validB r = true) : (bytesOf (encB n r)).size ≤ 340 := by
  have hb : ∀ t : ByteArray, (textB t).length = t.size + 1 := fun t => by rw [textB_eq, List.length_cons, data_length]
  have hs : ∀ v, (smallB v).length = 1 := fun v => rfl
  have hk : (restB r).length ≤ 327 := by
    rcases (valid_kinds h).1 with k | k | k | k | k | k | k
    · have b := valid_bounds_1 k h
      simp only [restB, k, if_true, List.length_append, numB_length, hb, hs]; omega
    · have b := valid_bounds_2 k h
      have q : ¬ (2 : Int) = 1 := by decide
      simp only [restB, k, q, if_false, if_true, List.length_append, numB_length, hb, hs]; omega
    · simp [restB, k]
    · simp [restB, k]
    · have b := valid_bounds_5 k h
      have q1 : ¬ (5 : Int) = 1 := by decide
      have q2 : ¬ (5 : Int) = 2 := by decide
      simp only [restB, k, q1, q2, if_false, true_or, if_true, hb]; omega
    · have b := open_units (valid_bounds_6 k h).2.2
      have q1 : ¬ (6 : Int) = 1 := by decide
      have q2 : ¬ (6 : Int) = 2 := by decide
      have q3 : ¬ ((6 : Int) = 5 ∨ (6 : Int) = 7) := by decide
      have e := opns_length b.2 r.units.length
      rw [List.take_length] at e
      simp only [restB, k, q1, q2, q3, if_false, if_true, List.length_append, hs]; omega
    · have b := valid_bounds_7 k h
      have q1 : ¬ (7 : Int) = 1 := by decide
      have q2 : ¬ (7 : Int) = 2 := by decide
      simp only [restB, k, q1, q2, if_false, or_true, if_true, hb]; omega
  rw [bytesOf_size]
  unfold encB headB
  simp only [List.length_append, numB_length, hs]
  omega
/-- What Append leaves. -/
def Appended (w0 : World) (b : Nat) (ow : Option Nat) (tb : Nat) (ot : Option Nat) (A : ADisk) (T : ATape) (r : Rec) (w : World) (e : Ending) (w' : World) : Prop :=
  ∃ ow' ot', e = .returned (.tuple #[.int .i64 (appendN T r), .int .i64 (appendE T r)]) ∧ Log w0 w' b ow' tb ot' (appendA A T r) (appendT T r) ∧ Turn (logs b ow tb ot) w w' ∧ (∀ k, ot' = some k → ot = some k ∨ w.heap.size ≤ k) ∧ (∀ k, ow' = some k → ow = some k ∨ w.heap.size ≤ k)
theorem Appended.none {w0 w w' : World} {b tb : Nat} {ow ot : Option Nat} {A : ADisk} {T : ATape} {r : Rec} {e : Ending} (h : appendE T r ≠ 0) (hL : Log w0 w b ow tb ot A T) (hn : New w w') (he : e = .returned (.tuple #[.int .i64 0, .int .i64 (appendE T r)])) : Appended w0 b ow tb ot A T r w e w' := by
  refine ⟨ow, ot, ?_, ?_, Turn.of_new hn, fun k h => .inl h, fun k h => .inl h⟩
  · rw [he]; simp only [appendN, if_neg h]
  · have e1 : appendA A T r = A := by simp only [appendA, if_neg h]
    have e2 : appendT T r = T := by simp only [appendT, if_neg h]
    rw [e1, e2]; exact hL.newer hn

set_option maxRecDepth 100000 in
set_option maxHeartbeats 4000000 in
theorem tappend_bad (w0 : World) (b : Nat) (ow : Option Nat) (tb : Nat) (ot : Option Nat) (A : ADisk) (T : ATape) (r : Rec) (bv av uv : Value) (w : World) (hL : Log w0 w b ow tb ot A T) (hr : RecAt w r bv av uv) (h0 : appendE T r ≠ 0) (hl : T.recs.length ≤ 3000) :
    Calls Tryz.prog 25 #[.pointer (some ⟨tb, 0, none⟩), .agg (recCells r bv av uv)] w (Appended w0 b ow tb ot A T r w) := by
  have LL := hid hL
  have HR := hid hr
  obtain ⟨⟨bp, bc, rfl, -⟩, ⟨ap, ac, rfl, -⟩, ⟨up, uc, rfl, -⟩⟩ := hr
  obtain ⟨tp, tc, hc, hf⟩ := tape_cells (hL.newer ((New.refl w).alloc #[.int .i64 r.kind, .int .i64 r.unit, .int .i64 r.page, .int .i64 r.at_, .slice bp r.before.size bc, .slice ap r.after.size ac, .int .i64 r.back, .int .i64 r.next, .string r.text, .slice up r.units.length uc] 70)).tape
  have H0 := hid h0
  clear hL h0
  cases hv : validB r with
  | false =>
    have HV := hid hv
    clear hv
    go_enter Tryz.func25, Tryz.ntmps25
    go_wp2_with fail
    refine (tnone_no tb b _ (hc 0)).mono ?_
    rintro e w' ⟨rfl, rfl⟩
    go_wp2_with fail
    refine (valid_any r _ _ _ _ (HR.out.new ((New.refl w).alloc _ _))).mono ?_
    rintro e w1 ⟨rfl, n1⟩
    rw [HV.out]
    go_wp2
    go_ret2
    exact Appended.none H0.out LL.out (((New.refl w).alloc _ _).trans n1) (by simp [appendE, HV.out])
  | true =>
    have HV := hid hv
    have h3 : T.recs.length = 3000 := by
      by_cases h : T.recs.length = 3000
      · exact h
      · exact absurd (by simp [appendE, hv, h]) H0.out
    clear hv
    go_enter Tryz.func25, Tryz.ntmps25
    go_wp2_with fail
    refine (tnone_no tb b _ (hc 0)).mono ?_
    rintro e w' ⟨rfl, rfl⟩
    go_wp2_with fail
    refine (valid_any r _ _ _ _ (HR.out.new ((New.refl w).alloc _ _))).mono ?_
    rintro e w1 ⟨rfl, n1⟩
    rw [HV.out]
    go_wp2_with fail
    refine (free_any tb ot b T _ (LL.out.newer (((New.refl w).alloc _ _).trans n1)).tape (by omega)).mono ?_
    rintro e w2 ⟨rfl, rfl⟩
    rw [show (3000 : Int) - (T.recs.length : Int) = 0 by omega]
    go_wp2
    go_ret2
    exact Appended.none H0.out LL.out (((New.refl w).alloc _ _).trans n1) (by simp [appendE, HV.out, h3])

end Go.Proofs.YtdccbceaajnajaaGreat

namespace Go.Proofs.YtdccbceaajnajaaGreat
open Go.RowKit
set_option linter.unusedSimpArgs false
set_option linter.unusedVariables false

theorem small_of_valid {r : Rec} (h : validB r = true) : r.before.size ≤ 128 ∧ r.after.size ≤ 128 ∧ r.units.length ≤ 8 := by
  have hk := h
  simp only [validB, Bool.and_eq_true] at hk
  have hk := hk.2
  have z : ∀ s : ByteArray, s = ByteArray.empty → s.size = 0 := fun s e => by rw [e]; rfl
  have hd : ∀ s : ByteArray, s.size = 0 → s.size ≤ 128 := fun s e => by omega
  have hu : ∀ l : List Opn, l.length = 0 → l.length ≤ 8 := fun l e => by omega
  rcases (valid_kinds h).1 with k | k | k | k | k | k | k
  · have b := valid_bounds_1 k h
    rw [if_pos k] at hk
    simp only [nu, Bool.and_eq_true, decide_eq_true_eq] at hk
    exact ⟨b.2.2.2.2.2.2.1, b.2.2.2.2.2.2.2, hu _ hk.1.2⟩
  · have b := valid_bounds_2 k h
    rw [if_neg (by omega), if_pos k] at hk
    simp only [nu, nf, Bool.and_eq_true, decide_eq_true_eq] at hk
    exact ⟨hd _ (by simp_all), b.2.2.2.2.2.2.1, hu _ (by simp_all)⟩
  · rw [if_neg (by omega), if_neg (by omega), if_pos k] at hk
    simp only [nu, nf, np, Bool.and_eq_true, decide_eq_true_eq] at hk
    exact ⟨hd _ (by simp_all), hd _ (by simp_all), hu _ (by simp_all)⟩
  · rw [if_neg (by omega), if_neg (by omega), if_neg (by omega), if_pos k] at hk
    simp only [nu, nf, np, Bool.and_eq_true, decide_eq_true_eq] at hk
    exact ⟨hd _ (by simp_all), hd _ (by simp_all), hu _ (by simp_all)⟩
  · rw [if_neg (by omega), if_neg (by omega), if_neg (by omega), if_neg (by omega), if_pos k] at hk
    simp only [nu, nf, np, Bool.and_eq_true, decide_eq_true_eq] at hk
    exact ⟨hd _ (by simp_all), hd _ (by simp_all), hu _ (by simp_all)⟩
  · have b := open_units (valid_bounds_6 k h).2.2
    rw [if_neg (by omega), if_neg (by omega), if_neg (by omega), if_neg (by omega), if_neg (by omega), if_pos k] at hk
    simp only [nf, np, Bool.and_eq_true, decide_eq_true_eq] at hk
    exact ⟨hd _ (by simp_all), hd _ (by simp_all), b.1⟩
  · rw [if_neg (by omega), if_neg (by omega), if_neg (by omega), if_neg (by omega), if_neg (by omega), if_neg (by omega), if_pos k] at hk
    simp only [nu, nf, np, Bool.and_eq_true, decide_eq_true_eq] at hk
    exact ⟨hd _ (by simp_all), hd _ (by simp_all), hu _ (by simp_all)⟩
/-- The tape's row has one more. -/
theorem TapeAt.grow {w w1 w2 : World} {tb b : Nat} {T : ATape} {v v' : Value} {xs : List Value} (he : w.heap[tb]? = some (.cells #[.pointer (some ⟨b, 0, none⟩), v, .int .i64 (T.forced : Int), .bool T.late] 87 (0, 0)))
    (hown : w.ownsRow 0 70 10 v T.recs.length xs) (hc : RecCells (RecIn w) T.recs xs) (hn : New w w1) {r : Rec} {bv av uv : Value} (hr : RecIn w1 r bv av uv) (hown2 : w2.ownsRow 0 70 10 v' (T.recs.length + 1) (xs ++ (recCells r bv av uv).toList)) (hg : w1.grownBy w2 v.ownBlock) :
    TapeAt ((w2.setCell ⟨tb, 1, none⟩ v').setCell ⟨tb, 3, none⟩ (.bool true)) tb v'.ownBlock b { T with recs := T.recs ++ [r], late := true } ∧ Turn (fun k => k = tb ∨ v.ownBlock = some k) w ((w2.setCell ⟨tb, 1, none⟩ v').setCell ⟨tb, 3, none⟩ (.bool true)) := by
  have e1 : w1.heap[tb]? = some (.cells #[.pointer (some ⟨b, 0, none⟩), v, .int .i64 (T.forced : Int), .bool T.late] 87 (0, 0)) := by rw [Below.block hn _ (Array.getElem?_eq_some_iff.1 he).1]; exact he
  have hown1 := own_old hown hn
  have ht : Turn (fun k => v.ownBlock = some k) w1 w2 := Turn.grown (Turn.refl _ w1) hg (fun k _ e => e)
  have e2 : w2.heap[tb]? = some (.cells #[.pointer (some ⟨b, 0, none⟩), v, .int .i64 (T.forced : Int), .bool T.late] 87 (0, 0)) := by
    rw [ht.block tb (Array.getElem?_eq_some_iff.1 e1).1 (own_ne hown1 e1 (by decide))]; exact e1
  have s1 := turn_set w2 tb 1 v'
  have s2 := s1.trans (turn_set _ tb 3 (.bool true))
  have e3 := heap_setCell_same _ tb 3 _ 87 (.bool true) (heap_setCell_same w2 tb 1 _ 87 v' e2)
  have a5 := apart_own hown1 (show (70 : TypeId) ≠ 5 by decide)
  have a90 : Apart90 (fun k => v.ownBlock = some k) w1 := fun k c fr hk hh => own_ne hown1 hh (by decide) hk
  have b5 : Apart (· = tb) w2 := apart_of e2 (by decide)
  have b90 : Apart90 (· = tb) w2 := fun k c fr hk hh => by subst hk; exact type_ne e2 hh (by decide) rfl
  refine ⟨⟨v', e3, rfl, xs ++ (recCells r bv av uv).toList, ?_, ?_⟩, ?_⟩
  · have : w2.ownsRow 0 70 10 v' (T.recs ++ [r]).length (xs ++ (recCells r bv av uv).toList) := by rw [List.length_append]; exact hown2
    exact own_turn this s2 (fun k hk e => own_ne this e2 (by decide) (e ▸ hk))
  · exact ((hc.imp fun r' _ _ _ h => (h.new hn)).snoc hr).imp fun r' _ _ _ h => (h.turn ht a5 a90).turn s2 b5 b90
  · exact ((Turn.of_new hn).trans (ht.mono (fun k _ e => Or.inr e))).trans (s2.mono (fun k _ e => Or.inl e))

theorem writeE_at {A : ADisk} {m : Nat} (hC : Calm A m) {n : Nat} (hn : n < 3000) {s : ByteArray} (hs : s.size ≤ 340) : writeE A (120 + (n : Int)) s = 0 := by
  rw [hC.wrote]
  have : isB (120 + (n : Int)) = true := by unfold isB; simp; omega
  simp [this, hs]
theorem logs_lt {w0 w : World} {b tb : Nat} {ow ot : Option Nat} {A : ADisk} {T : ATape} (h : Log w0 w b ow tb ot A T) : ∀ k, logs b ow tb ot k → w0.heap.size ≤ k := by
  rintro k ((rfl | hk) | rfl | hk)
  · exact h.bb
  · exact h.oo k hk
  · exact h.tt
  · exact h.rr k hk

theorem disk_keep {S : Nat → Prop} {w w' : World} {b : Nat} {ow : Option Nat} {A : ADisk} (h : DiskAt w b ow A) (ht : Turn S w w') (hS : ∀ k, S k → ∃ c t fr, w.heap[k]? = some (.cells c t fr) ∧ t ≠ 5 ∧ t ≠ 80 ∧ t ≠ 111) : DiskAt w' b ow A := by
  have key : ∀ k, its b ow k → ¬ S k := fun k hk hs => by
    obtain ⟨c, t, fr, e, _, h1, h2⟩ := hS k hs
    exact its_not h e h1 h2 hk
  refine h.turn ht (fun k c fr hs e => ?_) (key b (.inl rfl)) (fun k hk => key k (.inr hk))
  obtain ⟨c', t, fr', e', h5, _⟩ := hS k hs
  rw [e] at e'
  injection e' with e'
  injection e' with _ e2 _
  exact h5 e2.symm
/-- The log's end, where the record was laid. -/
theorem append_end {w0 w w3 w5 w8 : World} {b tb : Nat} {ow ow' ot : Option Nat} {A A' : ADisk} {T : ATape} {r : Rec} (hL : Log w0 w3 b ow' tb ot A' T) (hw : Log w0 w b ow tb ot A T) (hT : Turn (its b ow) w w3) (how : ∀ k, ow' = some k → ow = some k ∨ w.heap.size ≤ k)
    (hA : A' = appendA A T r) (h0 : appendE T r = 0)
    {v : Value} {xs : List Value} (te : w3.heap[tb]? = some (.cells #[.pointer (some ⟨b, 0, none⟩), v, .int .i64 (T.forced : Int), .bool T.late] 87 (0, 0))) (tv : v.ownBlock = ot) (tw : w3.ownsRow 0 70 10 v T.recs.length xs) (tr : RecCells (RecIn w3) T.recs xs)
    (hn : New w3 w5) {bv av uv : Value} (hr : RecIn w5 r bv av uv) {g8 k8 : Nat} (own8 : w8.ownsRow 0 70 10 (.slice (some ⟨g8, 0, none⟩) (T.recs.length + 1) k8) (T.recs.length + 1) (xs ++ (recCells r bv av uv).toList)) (grow8 : w5.grownBy w8 v.ownBlock) (blk8 : v.ownBlock = some g8 ∨ g8 = w5.heap.size) :
    Appended w0 b ow tb ot A T r w (.returned (.tuple #[.int .i64 ((T.recs.length : Int) + 1), .int .i64 0])) ((w8.setCell ⟨tb, 1, none⟩ (.slice (some ⟨g8, 0, none⟩) (T.recs.length + 1) k8)).setCell ⟨tb, 3, none⟩ (.bool true)) := by
  obtain ⟨hG, hTT⟩ := TapeAt.grow te tw tr hn hr own8 grow8
  subst hA
  have hd := disk_keep hL.disk hTT (fun k hk => by
    rcases hk with rfl | hk
    · exact ⟨_, _, _, te, by decide, by decide, by decide⟩
    · obtain ⟨c, hc⟩ := hL.tape.row (tv ▸ hk)
      exact ⟨_, _, _, hc, by decide, by decide, by decide⟩)
  have hs := hT.size
  have hs5 := hn.size
  have hw0 := hw.new.size
  refine ⟨ow', some g8, ?_, ⟨hd, ?_, ?_, hL.bb, hL.oo, hL.tt, ?_⟩, ?_, ?_, ?_⟩
  · simp [appendN, h0]
  · have e : appendT T r = { T with recs := T.recs ++ [r], late := true } := by simp only [appendT, if_pos h0]
    rw [e]; exact hG
  · refine Below.trans hL.new (hTT.below (fun k hk => ?_) hL.new.size)
    rcases hk with rfl | hk
    · exact hL.tt
    · exact hL.rr k (tv ▸ hk)
  · intro k hk
    injection hk with hk
    subst hk
    rcases blk8 with h | h
    · exact hL.rr _ (tv ▸ h)
    · omega
  · refine (hT.mono (fun k _ e => Or.inl e)).trans (hTT.mono (fun k _ e => ?_))
    rcases e with rfl | e
    · exact Or.inr (Or.inl rfl)
    · exact Or.inr (Or.inr (tv ▸ e))
  · intro k hk
    injection hk with hk
    subst hk
    rcases blk8 with h | h
    · exact Or.inl (tv ▸ h)
    · exact Or.inr (by omega)
  · exact how

set_option maxRecDepth 100000 in
set_option maxHeartbeats 8000000 in
theorem tappend_ok (w0 : World) (b : Nat) (ow : Option Nat) (tb : Nat) (ot : Option Nat) (A : ADisk) (T : ATape) (m : Nat) (r : Rec) (bv av uv : Value) (w : World) (hL : Log w0 w b ow tb ot A T) (hC : Calm A m) (hm : m ≤ 1000000) (hr : ∀ w', Turn (logs b ow tb ot) w w' → RecAt w' r bv av uv) (h0 : appendE T r = 0) (hl : T.recs.length ≤ 3000) :
    Calls Tryz.prog 25 #[.pointer (some ⟨tb, 0, none⟩), .agg (recCells r bv av uv)] w (Appended w0 b ow tb ot A T r w) := by
  have hv : validB r = true := by
    cases hv : validB r with
    | true => rfl
    | false => simp [appendE, hv] at h0
  have hlt : T.recs.length < 3000 := by
    rcases Nat.lt_or_ge T.recs.length 3000 with h | h
    · exact h
    · have : T.recs.length = 3000 := by omega
      simp [appendE, hv, this] at h0
  have HR := hid hr
  have hr0 := hr w (Turn.refl _ w)
  obtain ⟨⟨bp, bc, rfl, -⟩, ⟨ap, ac, rfl, -⟩, ⟨up, uc, rfl, -⟩⟩ := hr0
  obtain ⟨c, hc0⟩ : ∃ c : Array Value, c = #[.int .i64 r.kind, .int .i64 r.unit, .int .i64 r.page, .int .i64 r.at_, .slice bp r.before.size bc, .slice ap r.after.size ac, .int .i64 r.back, .int .i64 r.next, .string r.text, .slice up r.units.length uc] := ⟨_, rfl⟩
  have L1 := hid (hL.newer ((New.refl w).alloc c 70))
  obtain ⟨tp, tc, hc, hf⟩ := tape_cells L1.out.tape
  have X1 : (w.alloc (.cells c 70)).heap[w.heap.size]? = some (.cells c 70 (0, 0)) := heap_alloc_new w _
  have N1 := hid ((New.refl w).alloc c 70)
  rw [hc0] at hc hf
  have HV := hid hv
  have HC0 := hid hc0
  have HLT := hid hlt
  have HC := hid hC
  have HX1 := hid X1
  have HLL := hid hL
  have H0 := hid h0
  clear hL h0 hv hc0 hC X1 hr
  go_enter Tryz.func25, Tryz.ntmps25
  go_wp2_with fail
  refine (tnone_no tb b _ (hc 0)).mono ?_
  rintro e w' ⟨rfl, rfl⟩
  go_wp2_with fail
  refine (valid_any r _ _ _ _ (HR.out _ (Turn.of_new ((New.refl w).alloc _ _)))).mono ?_
  rintro e w1 ⟨rfl, n1⟩
  rw [HV.out]
  rw [← HC0.out] at n1
  have L2 := hid (L1.out.newer n1)
  have N2 := hid (N1.out.trans n1)
  clear L1 N1 hc hf
  go_wp2_with fail
  refine (free_any tb ot b T _ L2.out.tape (by have := HLT.out; omega)).mono ?_
  rintro e w2 ⟨rfl, rfl⟩
  have q1 : ((3000 : Int) - (T.recs.length : Int) == 0) = false := by have := HLT.out; simp; omega
  obtain ⟨tp, tc, hc, hf⟩ := tape_cells L2.out.tape
  have X2 : w1.heap[w.heap.size]? = some (.cells c 70 (0, 0)) := by rw [Below.block n1 _ (by simp)]; exact HX1.out
  have ml := cells_of X2
  rw [HC0.out] at ml
  have HX2 := hid X2
  clear HX1 X2 n1
  go_wp2_with fail
  refine (encode_any ((T.recs.length : Int) + 1) r _ _ _ _ (HR.out _ (Turn.of_new N2.out))).mono ?_
  rintro e w2 he
  have ok : (validB r && wi 1 ((T.recs.length : Int) + 1) 1000000) = true := by
    have : wi 1 ((T.recs.length : Int) + 1) 1000000 = true := by rw [wi_iff]; have := HLT.out; omega
    rw [HV.out, this]; rfl
  simp only [ok, if_true] at he
  obtain ⟨v2, rfl, hb2, n2⟩ := he
  obtain ⟨s, hs⟩ : ∃ s, s = bytesOf (encB ((T.recs.length : Int) + 1) r) := ⟨_, rfl⟩
  rw [← hs] at hb2
  have HS : Hid (s.size ≤ 340) := hid (by rw [hs]; exact encB_small HV.out)
  have HSS := hid hs
  clear hs ok ml hc hf
  obtain ⟨p2, c2, rfl, k1, k2, -⟩ := id hb2
  have HB := hid hb2
  have L3 := hid (L2.out.newer n2)
  have N3 := hid (N2.out.trans n2)
  have HN3 := hid N3.out
  have X3 : w2.heap[w.heap.size]? = some (.cells c 70 (0, 0)) := by rw [Below.block n2 _ (Array.getElem?_eq_some_iff.1 HX2.out).1]; exact HX2.out
  have HX3 := hid X3
  clear L2 N2 HX2 X3 n2 hb2
  obtain ⟨tp, tc, hc, hf⟩ := tape_cells L3.out.tape
  go_wp2_with fail
  have e1 : (120 : Int) + ((T.recs.length : Int) + 1) - 1 = 120 + (T.recs.length : Int) := by omega
  try rw [e1]
  refine (write_any b ow A (120 + (T.recs.length : Int)) _ s _ L3.out.disk HB.out (bytes_not_disk L3.out.disk HB.out) (by have := HC.out.falls; omega) (by have := HC.out.acts; omega) (by have := HC.out.waits; omega)).mono ?_
  clear e1
  rintro e w3 hm
  obtain ⟨ow', rfl, hl3, ht3, how⟩ := L3.out.moved hm
  have OW := hid how
  rw [writeE_at HC.out HLT.out HS.out]
  have T3 := hid ((Turn.of_new (S := its b ow) N3.out).trans ht3)
  have X4 : w3.heap[w.heap.size]? = some (.cells c 70 (0, 0)) := by
    rw [ht3.block _ (Array.getElem?_eq_some_iff.1 HX3.out).1 (its_not L3.out.disk HX3.out (by decide) (by decide))]; exact HX3.out
  have L4 := hid hl3
  have HX4 := hid X4
  clear how hm hl3 ht3 X4 HX3 hc hf L3 N3 HB k1 k2
  obtain ⟨v4, te, tv, xs, tw, tr⟩ := L4.out.tape
  obtain ⟨tp, tc, rfl⟩ := own_len tw
  have hc := cells_of te
  have hf := frozen_of te
  have TE := hid te
  have TO := hid tw
  have TR := hid tr
  have ml := cells_of HX4.out
  rw [HC0.out] at ml
  have hq := own_ne tw te (show (87 : TypeId) ≠ 70 by decide)
  have HQ := hid hq
  have hlt4 : tb < w3.heap.size := (Array.getElem?_eq_some_iff.1 te).1
  have c1' : ∀ w', New w3 w' → w'.cell? ⟨tb, 1, none⟩ = some (.slice tp T.recs.length tc) := fun w' h => by rw [h.cell tb 1 hlt4]; exact hc 1
  have z1' : ∀ w', New w3 w' → w'.frozen? ⟨tb, 1, none⟩ = false := fun w' h => by rw [(bcell h).2 tb 1 hlt4]; exact hf 1
  have SM := hid (small_of_valid HV.out)
  have LE := hid (show T.recs.length ≤ 1000000 by have := HLT.out; omega)
  clear te tw tr hq
  go_upto_region 12 with fail
  go_region_law (first
    | (go_simp; go_at_call 63; refine (copied_any r _ _ _ _ (HR.out _ ((T3.out.mono (fun k _ e => Or.inl e)).drew)) (by have := SM.out; omega) (by have := SM.out; omega) (by have := SM.out; omega)).mono ?_; rintro e w5 ⟨bv5, av5, uv5, rfl, hin, hn5⟩; obtain ⟨⟨⟨p5, k5, rfl, -⟩, -⟩, ⟨⟨p6, k6, rfl, -⟩, -⟩, ⟨⟨p7, k7, rfl, -⟩, -⟩⟩ := id hin; have IN := hid hin; have HN5 := hid hn5; clear hin hn5; have c5 := c1' _ ((New.refl w3).drew.trans HN5.out); have l5 := ((New.refl w3).drew.trans HN5.out).size; have l6 : tb < w5.heap.size := Nat.lt_of_lt_of_le hlt4 l5; have c6 := c1' _ (((New.refl w3).drew.trans HN5.out).alloc #[.int .i64 r.kind, .int .i64 r.unit, .int .i64 r.page, .int .i64 r.at_, .slice p5 r.before.size k5, .slice p6 r.after.size k6, .int .i64 r.back, .int .i64 r.next, .string r.text, .slice p7 r.units.length k7] 70))
    | (refine step_rec rfl _ _ rfl _ _ _ rfl 0 (own_old TO.out (((New.refl w3).drew.trans HN5.out).alloc _ _)) (Nat.zero_le _) w5.heap.size r p5 p6 p7 _ k5 _ k6 _ k7 rfl (cells_of (heap_alloc_new w5 _)) LE.out ?_; intro g8 k8 w8 own8 grow8 blk8; have l8 : tb < (w5.alloc (.cells #[.int .i64 r.kind, .int .i64 r.unit, .int .i64 r.page, .int .i64 r.at_, .slice p5 r.before.size k5, .slice p6 r.after.size k6, .int .i64 r.back, .int .i64 r.next, .string r.text, .slice p7 r.units.length k7] 70)).heap.size := (by simp; omega); have c8 := grow8.cell_far ⟨tb, 1, none⟩ l8 (fun e => HQ.out e.symm); have z8 := grow8.frozen_far ⟨tb, 1, none⟩ l8 (fun e => HQ.out e.symm); rw [c1' _ (((New.refl w3).drew.trans HN5.out).alloc _ _)] at c8; rw [z1' _ (((New.refl w3).drew.trans HN5.out).alloc _ _)] at z8))
  all_goals
    have d8 := grow8.cell_far ⟨tb, 3, none⟩ l8 (fun e => HQ.out e.symm)
    have y8 := grow8.frozen_far ⟨tb, 3, none⟩ l8 (fun e => HQ.out e.symm)
    rw [(((New.refl w3).drew.trans HN5.out).alloc _ _).cell tb 3 hlt4, hc 3] at d8
    rw [(bcell (((New.refl w3).drew.trans HN5.out).alloc _ _)).2 tb 3 hlt4, hf 3] at y8
    have O8 := hid own8
    have G8 := hid grow8
    have B8 := hid blk8
    clear own8 grow8 blk8 hc hf c1' z1' ml
    go_wp2
    go_ret2
    refine append_end L4.out HLL.out T3.out (fun k hk => ?_) ?_ H0.out TE.out tv TO.out TR.out (((New.refl w3).drew.trans HN5.out).alloc _ _) (IN.out.new ((New.refl w5).alloc _ _)) O8.out G8.out B8.out
    · rcases OW.out k hk with h | h
      · exact Or.inl h
      · exact Or.inr (Nat.le_trans HN3.out.size h)
    · simp only [appendA, if_pos H0.out, HSS.out]

end Go.Proofs.YtdccbceaajnajaaGreat
