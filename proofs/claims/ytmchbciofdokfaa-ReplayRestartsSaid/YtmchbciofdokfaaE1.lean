/- Rows of records in memory: words, an append, the same records, a row that came in. -/
import Derived.Test.YtmchbciofdokfaaA5
import Derived.Test.YtmchbciofdokfaaA10
import Derived.Test.YtmchbciofdokfaaA13
import Derived.Test.YtmchbciofdokfaaA14
import Derived.Test.YtmchbciofdokfaaD3
import Derived.Deep.Grids
import Derived.Deep.Grids
import Derived.Deep.RegionLaw
namespace Go.Proofs.Ytmchbciofdokfaa
open Go.RowKit
set_option linter.unusedSimpArgs false
set_option linter.unusedVariables false

def rec0 : Rec := ⟨0, 0, 0, 0, ByteArray.empty, ByteArray.empty, 0, 0, ByteArray.empty, []⟩

/-- The cells of a list of records; P says what lies of a record's parts. -/
def RecCells (P : Rec → Value → Value → Value → Prop) (l : List Rec) (xs : List Value) : Prop :=
  xs.length = l.length * 10 ∧ ∀ i (h : i < l.length), ∃ bv av uv, P l[i] bv av uv ∧ ∀ j, j < 10 → xs[i * 10 + j]? = (recCells l[i] bv av uv)[j]?
theorem RecCells.imp {P Q : Rec → Value → Value → Value → Prop} {l : List Rec} {xs : List Value} (h : RecCells P l xs) (hPQ : ∀ r b a u, P r b a u → Q r b a u) : RecCells Q l xs :=
  ⟨h.1, fun i hi => by obtain ⟨b, a, u, h1, h2⟩ := h.2 i hi; exact ⟨b, a, u, hPQ _ _ _ _ h1, h2⟩⟩
theorem RecCells.nil (P : Rec → Value → Value → Value → Prop) : RecCells P [] [] := ⟨rfl, fun i h => absurd h (Nat.not_lt_zero _)⟩
theorem RecCells.snoc {P : Rec → Value → Value → Value → Prop} {l : List Rec} {xs : List Value} (h : RecCells P l xs) {r : Rec} {b a u : Value} (hr : P r b a u) : RecCells P (l ++ [r]) (xs ++ (recCells r b a u).toList) := by
  obtain ⟨h0, h1⟩ := h
  refine ⟨by rw [List.length_append, List.length_append, h0]; simp; omega, fun i hi => ?_⟩
  rcases Nat.lt_or_ge i l.length with hlt | hge
  · obtain ⟨b', a', u', e1, e2⟩ := h1 i hlt
    refine ⟨b', a', u', by rw [List.getElem_append_left hlt]; exact e1, fun j hj => ?_⟩
    rw [List.getElem_append_left hlt, List.getElem?_append_left (by rw [h0]; omega)]
    exact e2 j hj
  · obtain rfl : i = l.length := by simp at hi; omega
    refine ⟨b, a, u, by simpa using hr, fun j hj => ?_⟩
    rw [List.getElem?_append_right (by rw [h0]; omega), h0, show l.length * 10 + j - l.length * 10 = j by omega]
    simp

theorem info25 : (Try.prog.info? 36).map (fun i => (i.zero, i.size, i.bytes)) = some (some (.agg #[.int .i64 0, .int .i64 0, .int .i64 0, .int .i64 0, .slice none 0 0, .slice none 0 0, .int .i64 0, .int .i64 0, .string ByteArray.empty, .slice none 0 0]), 10, 136) := by kernel_rfl
theorem recCells_one {r : Rec} {p1 p2 p3 : Option Addr} {n1 c1 n2 c2 n3 c3 : Nat} : ∀ u ∈ (recCells r (.slice p1 n1 c1) (.slice p2 n2 c2) (.slice p3 n3 c3)).toList, u.oneCell' = true := by
  intro u hu
  simp at hu
  rcases hu with rfl | rfl | rfl | rfl | rfl | rfl | rfl | rfl | rfl | rfl <;> rfl
set_option maxRecDepth 10000 in
/-- append(l, r). -/
theorem app_rec {ops : Array Oper} {rest : List Oper} {o : Oper} {a : Act} {w : World} {Q : Exit → Act → World → Prop} (hgd : o.guard = none) (sl x : Operand)
    (ho : o.op = .call { callee := .builtin .append, args := #[sl, x], argTypes := #[22, 22] })
    (v : Value) (n : Nat) (xs : List Value) (hs : a.eval sl = v) (base : Nat) (hown : w.ownsRow base 36 10 v n xs) (hbase : base ≤ w.heap.size) (k : Nat) (r : Rec) (p1 p2 p3 : Option Addr) (n1 c1 n2 c2 n3 c3 : Nat) (hx : a.eval x = .slice (some ⟨k, 0, none⟩) 1 1)
    (hc : ∀ i, w.cell? ⟨k, i, none⟩ = (recCells r (.slice p1 n1 c1) (.slice p2 n2 c2) (.slice p3 n3 c3))[i]?) (hb : n ≤ 1000000)
    (h : ∀ v' w', w'.ownsRow base 36 10 v' (n + 1) (xs ++ (recCells r (.slice p1 n1 c1) (.slice p2 n2 c2) (.slice p3 n3 c3)).toList) → w.grownBy w' v.ownBlock → (v'.ownBlock = v.ownBlock ∨ v'.ownBlock = some w.heap.size) → wpList Try.prog ops Q rest (a.put o.dst v') w') : wpList Try.prog ops Q (o :: rest) a w := by
  obtain ⟨i0, hi, hz0, hz1, hz2⟩ := info_parts info25
  refine wpList_append_own_at w hgd sl x 22 ho base 36 i0 _ 10 136 Try.underlying22 hi hz0 hz1 hz2 rfl (by decide) v n xs hs hown ⟨k, 0, none⟩ 1 1 (recCells r (.slice p1 n1 c1) (.slice p2 n2 c2) (.slice p3 n3 c3)).toList hx rfl (fun j u hj => ?_) recCells_one (by unfold maxLen; omega) (by omega) hbase fun v' w' h1 h2 _ h4 => h v' w' h1 h2 h4
  have e : (⟨k, 0, none⟩ : Addr).add j = ⟨k, j, none⟩ := by unfold Addr.add; split <;> simp_all
  rw [e, hc j, ← hj, Array.getElem?_toList]

theorem rec_row {w : World} {base g cap n : Nat} {xs : List Value} {l : List Rec} {P : Rec → Value → Value → Value → Prop} (hown : w.ownsRow base 36 10 (.slice (some ⟨g, 0, none⟩) n cap) n xs) (hc : RecCells P l xs) (hn : n = l.length) {i : Nat} (hi : i < l.length) :
    ∃ bv av uv, P l[i] bv av uv ∧ ∀ j, j < 10 → w.cell? ⟨g, i * 10 + j, none⟩ = (recCells l[i] bv av uv)[j]? := by
  obtain ⟨bv, av, uv, h1, h2⟩ := hc.2 i hi
  exact ⟨bv, av, uv, h1, fun j hj => by rw [hown.cellAt (i * 10 + j) (by omega)]; exact h2 j hj⟩
theorem rec_ten {w : World} {g o : Nat} {r : Rec} {bv av uv : Value} (h : ∀ j, j < 10 → w.cell? ⟨g, o + j, none⟩ = (recCells r bv av uv)[j]?) :
    w.cell? ⟨g, o, none⟩ = some (.int .i64 r.kind) ∧ w.cell? ⟨g, o + 1, none⟩ = some (.int .i64 r.unit) ∧ w.cell? ⟨g, o + 2, none⟩ = some (.int .i64 r.page) ∧ w.cell? ⟨g, o + 3, none⟩ = some (.int .i64 r.at_) ∧ w.cell? ⟨g, o + 4, none⟩ = some bv ∧
    w.cell? ⟨g, o + 5, none⟩ = some av ∧ w.cell? ⟨g, o + 6, none⟩ = some (.int .i64 r.back) ∧ w.cell? ⟨g, o + 7, none⟩ = some (.int .i64 r.next) ∧ w.cell? ⟨g, o + 8, none⟩ = some (.string r.text) ∧ w.cell? ⟨g, o + 9, none⟩ = some uv :=
  ⟨h 0 (by omega), h 1 (by omega), h 2 (by omega), h 3 (by omega), h 4 (by omega), h 5 (by omega), h 6 (by omega), h 7 (by omega), h 8 (by omega), h 9 (by omega)⟩
/-- A list of records that lies in memory. -/
def Recs (w : World) (v : Value) (l : List Rec) : Prop :=
  ∃ p c, v = .slice p l.length c ∧ l.length ≤ c ∧ c ≤ maxLen ∧ (0 < l.length → ∃ b o, p = some ⟨b, o, none⟩ ∧ b < w.heap.size ∧ ∀ i (h : i < l.length), ∃ bv av uv, RecAt w l[i] bv av uv ∧ ∀ j, j < 10 → w.cell? ⟨b, o + i * 10 + j, none⟩ = (recCells l[i] bv av uv)[j]?)
theorem Recs.new {w w' : World} {v : Value} {l : List Rec} (h : Recs w v l) (hn : New w w') : Recs w' v l := by
  obtain ⟨p, c, e, h1, h2, h3⟩ := h
  refine ⟨p, c, e, h1, h2, fun h0 => ?_⟩
  obtain ⟨b, o, e2, hb, hx⟩ := h3 h0
  refine ⟨b, o, e2, Nat.lt_of_lt_of_le hb hn.size, fun i hi => ?_⟩
  obtain ⟨bv, av, uv, hr, hc⟩ := hx i hi
  exact ⟨bv, av, uv, hr.new hn, fun j hj => by rw [hn.cell _ _ hb]; exact hc j hj⟩
theorem Recs.row {w : World} {base : Nat} {v : Value} {l : List Rec} {xs : List Value} (h : w.ownsRow base 36 10 v l.length xs) (hc : RecCells (RecAt w) l xs) : Recs w v l := by
  obtain ⟨p, c, rfl, h1, h2, _⟩ := RowAt.owned h
  refine ⟨p, c, rfl, h1, h2, fun h0 => ?_⟩
  obtain ⟨g, cap, e, -, hg⟩ := h.form h0
  injection e with e1 _ e3
  subst e1 e3
  refine ⟨g, 0, rfl, hg, fun i hi => ?_⟩
  obtain ⟨bv, av, uv, hr, hj⟩ := rec_row h hc rfl hi
  exact ⟨bv, av, uv, hr, fun j hj' => by rw [Nat.zero_add]; exact hj j hj'⟩
theorem Recs.form {w : World} {v : Value} {l : List Rec} (h : Recs w v l) : ∃ p c, v = .slice p l.length c ∧ l.length ≤ c ∧ c ≤ maxLen := by
  obtain ⟨p, c, e, h1, h2, _⟩ := h
  exact ⟨p, c, e, h1, h2⟩
/-- A record of it. -/
theorem Recs.get {w : World} {p : Option Addr} {n c : Nat} {l : List Rec} (h : Recs w (.slice p n c) l) {k : Nat} (hk : k < l.length) :
    ∃ b o p1 c1 p2 c2 p3 c3, p = some ⟨b, o, none⟩ ∧ b < w.heap.size ∧ RecAt w l[k] (.slice p1 l[k].before.size c1) (.slice p2 l[k].after.size c2) (.slice p3 l[k].units.length c3) ∧
      ∀ j, j < 10 → w.cell? ⟨b, o + k * 10 + j, none⟩ = (recCells l[k] (.slice p1 l[k].before.size c1) (.slice p2 l[k].after.size c2) (.slice p3 l[k].units.length c3))[j]? := by
  obtain ⟨p', c', e, h1, h2, h3⟩ := h
  injection e with e1 e2 e3
  subst e1
  obtain ⟨b, o, rfl, hb, hx⟩ := h3 (by omega)
  obtain ⟨bv, av, uv, hr, hj⟩ := hx k hk
  obtain ⟨⟨p1, c1, rfl, -⟩, ⟨p2, c2, rfl, -⟩, ⟨p3, c3, rfl, -⟩⟩ := id hr
  exact ⟨b, o, p1, c1, p2, c2, p3, c3, rfl, hb, hr, hj⟩
theorem refSame_is (B : Bool) (r s : Rec) (b1 a1 u1 b2 a2 u2 : Value) (w : World) (hB : decide (r = s) = B) (h1 : RecAt w r b1 a1 u1) (h2 : RecAt w s b2 a2 u2) :
    Calls Try.prog 42 #[.agg (recCells r b1 a1 u1), .agg (recCells s b2 a2 u2)] w fun e w' => e = .returned (.bool B) ∧ New w w' := by
  subst hB; exact refSameRecord_any r s b1 a1 u1 b2 a2 u2 w h1 h2
set_option maxRecDepth 100000 in
set_option maxHeartbeats 8000000 in
theorem sameRecords_any (u v : Value) (l m : List Rec) (w : World) (h1 : Recs w u l) (h2 : Recs w v m) : Calls Try.prog 15 #[u, v] w fun e w' => e = .returned (.bool (decide (l = m))) ∧ New w w' := by
  obtain ⟨p, c, rfl, g1, g2⟩ := h1.form
  obtain ⟨q, d, rfl, g3, g4⟩ := h2.form
  unfold maxLen at g2 g4
  have H1 := hid h1
  have H2 := hid h2
  clear h1 h2
  by_cases hlen : l.length = m.length
  · have HL := hid hlen
    have q1 : ((l.length : Int) == (m.length : Int)) = true := by simp; omega
    have q2 : ((l.length : Int) != (m.length : Int)) = false := by simp; omega
    clear hlen
    go_enter Try.func15, Try.ntmps15
    go_wp2
    clear q1 q2
    go_loopw [5] (fun i wr => ∃ k : Nat, k ≤ l.length ∧ i = .int .i64 k ∧ Hid (l.take k = m.take k ∧ New w wr)) (fun i _ => l.length - (intOf i).toNat)
    case atStart => exact ⟨0, Nat.zero_le _, rfl, hid ⟨rfl, New.refl w⟩⟩
    case round =>
      obtain ⟨k, hk, rfl, hyp⟩ := hrel
      by_cases hlt : k < l.length
      · have hlt2 : k < m.length := by have := HL.out; omega
        obtain ⟨b1, o1, p1, c1, p2, c2, p3, c3, rfl, hb1, hr1, hc1⟩ := H1.out.get hlt
        obtain ⟨b2, o2, p4, c4, p5, c5, p6, c6, rfl, hb2, hr2, hc2⟩ := H2.out.get hlt2
        have HTL := hid (show l.take (k + 1) = l.take k ++ [l[k]] from (List.take_append_getElem hlt).symm)
        have HTM := hid (show m.take (k + 1) = m.take k ++ [m[k]] from (List.take_append_getElem hlt2).symm)
        have HNE : Hid (l[k] ≠ m[k] → l ≠ m) := hid (fun h e => h (by subst e; rfl))
        obtain ⟨r, er⟩ : ∃ r, r = l[k] := ⟨_, rfl⟩
        obtain ⟨s, es⟩ : ∃ s, s = m[k] := ⟨_, rfl⟩
        rw [← er] at hr1 hc1 HTL HNE
        rw [← es] at hr2 hc2 HTM HNE
        clear er es
        obtain ⟨x0, x1, x2, x3, x4, x5, x6, x7, x8, x9⟩ := rec_ten hc1
        obtain ⟨y0, y1, y2, y3, y4, y5, y6, y7, y8, y9⟩ := rec_ten hc2
        have hn := hyp.out.2
        have HN := hid hn
        have HR1 := hid hr1
        have HR2 := hid hr2
        have X : ∀ (p : After wr) a b, b < w.heap.size → p.w.cell? ⟨b, a, none⟩ = w.cell? ⟨b, a, none⟩ := fun p a b hb => (hn.trans p.new).cell b a hb
        have x0' := fun (p : After wr) => (X p _ _ hb1).trans x0
        have x1' := fun (p : After wr) => (X p _ _ hb1).trans x1
        have x2' := fun (p : After wr) => (X p _ _ hb1).trans x2
        have x3' := fun (p : After wr) => (X p _ _ hb1).trans x3
        have x4' := fun (p : After wr) => (X p _ _ hb1).trans x4
        have x5' := fun (p : After wr) => (X p _ _ hb1).trans x5
        have x6' := fun (p : After wr) => (X p _ _ hb1).trans x6
        have x7' := fun (p : After wr) => (X p _ _ hb1).trans x7
        have x8' := fun (p : After wr) => (X p _ _ hb1).trans x8
        have x9' := fun (p : After wr) => (X p _ _ hb1).trans x9
        have y0' := fun (p : After wr) => (X p _ _ hb2).trans y0
        have y1' := fun (p : After wr) => (X p _ _ hb2).trans y1
        have y2' := fun (p : After wr) => (X p _ _ hb2).trans y2
        have y3' := fun (p : After wr) => (X p _ _ hb2).trans y3
        have y4' := fun (p : After wr) => (X p _ _ hb2).trans y4
        have y5' := fun (p : After wr) => (X p _ _ hb2).trans y5
        have y6' := fun (p : After wr) => (X p _ _ hb2).trans y6
        have y7' := fun (p : After wr) => (X p _ _ hb2).trans y7
        have y8' := fun (p : After wr) => (X p _ _ hb2).trans y8
        have y9' := fun (p : After wr) => (X p _ _ hb2).trans y9
        clear X hc1 hc2 x0 x1 x2 x3 x4 x5 x6 x7 x8 x9 y0 y1 y2 y3 y4 y5 y6 y7 y8 y9 hr1 hr2 hn
        have hs : decide (k < m.length) = true := by simpa using hlt2
        by_cases hrs : r = s
        · have HD : Hid (decide (r = s) = true) := hid (by simpa using hrs)
          have HRS := hid hrs
          clear hrs
          go_wp2_with fail
          refine wp_region_new (by kernel_rfl) (by kernel_rfl) ?_
          repeat (go_big_quiet_step (with_reducible refine calls_after (refSame_is true r s _ _ _ _ _ _ _ HD.out (HR1.out.new (HN.out.trans (After.new _))) (HR2.out.new (HN.out.trans (After.new _))))))
          refine wpQuiet_nil ?_
          rintro _ ⟨P, rfl⟩
          clear x0' x1' x2' x3' x4' x5' x6' x7' x8' x9' y0' y1' y2' y3' y4' y5' y6' y7' y8' y9'
          have HP := hid (HN.out.trans P.new)
          go_wp2
          go_roundw
          case rel => exact ⟨k + 1, by omega, by go_num, hid ⟨by rw [HTL.out, HTM.out, hyp.out.1, HRS.out], HP.out⟩⟩
          case measure => simp [intOf]; omega
        · have HD : Hid (decide (r = s) = false) := hid (by simpa using hrs)
          have HRS := hid hrs
          clear hrs
          go_wp2_with fail
          refine wp_region_new (by kernel_rfl) (by kernel_rfl) ?_
          repeat (go_big_quiet_step (with_reducible refine calls_after (refSame_is false r s _ _ _ _ _ _ _ HD.out (HR1.out.new (HN.out.trans (After.new _))) (HR2.out.new (HN.out.trans (After.new _))))))
          refine wpQuiet_nil ?_
          rintro _ ⟨P, rfl⟩
          clear x0' x1' x2' x3' x4' x5' x6' x7' x8' x9' y0' y1' y2' y3' y4' y5' y6' y7' y8' y9'
          have HP := hid (HN.out.trans P.new)
          go_wp2
          go_ret
          exact ⟨by rw [decide_eq_false (HNE.out HRS.out)]; rfl, HP.out⟩
      · obtain rfl : k = l.length := by omega
        have HY := hid hyp
        clear hyp
        go_wp2
        go_ret
        have e := HY.out.out.1
        rw [List.take_length, List.take_of_length_le (by have := HL.out; omega)] at e
        exact ⟨by rw [decide_eq_true e]; rfl, HY.out.out.2⟩
  · have q1 : ((l.length : Int) == (m.length : Int)) = false := by simp; omega
    have q2 : ((l.length : Int) != (m.length : Int)) = true := by simp; omega
    have q3 : (l.length == m.length) = false := by simpa using hlen
    have q4 : (l.length != m.length) = true := by simpa using hlen
    have HL := hid hlen
    clear hlen
    go_enter Try.func15, Try.ntmps15
    go_wp2
    go_ret
    exact ⟨by rw [decide_eq_false (fun e => HL.out (by rw [e]))]; rfl, New.refl w⟩
end Go.Proofs.Ytmchbciofdokfaa

namespace Go.Proofs.Ytmchbciofdokfaa
open Go.RowKit Go.ChangeShapes Go.WideShapes
set_option linter.unusedVariables false

section
variable {H : Type} {enc : TypeId × Value → H} {w : World} {base : Nat} {held : Bool}

theorem add_plain2 {a : Addr} {k : Nat} {v : Value} (h : w.cell? (a.add k) = some v) : a.add k = ⟨a.block, a.off + k, none⟩ ∧ a.block < w.heap.size := by
  by_cases hk : k = 0
  · subst hk
    have e0 : a.add 0 = a := by simp [Addr.add]
    rw [e0] at h ⊢
    exact addr_plain h
  · have e0 : a.add k = ⟨a.block, a.off + k, none⟩ := by unfold Addr.add; rw [if_neg hk]
    rw [e0] at h ⊢
    exact ⟨rfl, (addr_plain h).2⟩

set_option maxRecDepth 100000 in
/-- A slice of records that came in. -/
theorem recs_arg {fuel : Nat} {cs : List Value} {x : DataW H × List MemPlace} (h : DataW.trod enc Try.prog w base (fun _ => true) held fuel 22 cs = some x) : ∃ v l, cs = [v] ∧ Recs w v l := by
  rcases Deep.open_slice Try.underlying22 h with ⟨rfl, _⟩ | ⟨a, len, cap, m, n, D, Pl, rfl, _, hl, hm, hmm, _, hi⟩
  · exact ⟨_, [], rfl, none, 0, rfl, Nat.le_refl _, by decide, fun h => absurd h (by decide)⟩
  · rw [cells25] at hi
    have hlm : len ≤ m := by rw [hmm]; split <;> omega
    have el : ∀ i, i < len → ∃ u : Rec, (a.add (i * 10)) = ⟨a.block, a.off + i * 10, none⟩ ∧ a.block < w.heap.size ∧ ∃ bv av uv, RecAt w u bv av uv ∧ ∀ j, j < 10 → w.cell? ⟨a.block, a.off + i * 10 + j, none⟩ = (recCells u bv av uv)[j]? := by
      intro i hlt
      obtain ⟨cs', hc, ht⟩ := hi i (by omega)
      obtain ⟨_, hcl, hat⟩ := World.cells?_some hc
      match cs', hcl with
      | [c0, c1, c2, c3, c4, c5, c6, c7, c8, c9], _ =>
        have F := fun j f hj h1 v hv => field_at Try.underlying36 ht j f hj h1 v hv
        obtain ⟨_, _, f0⟩ := F 0 _ rfl cells3 c0 rfl
        obtain ⟨_, _, f1⟩ := F 1 _ rfl cells3 c1 rfl
        obtain ⟨_, _, f2⟩ := F 2 _ rfl cells3 c2 rfl
        obtain ⟨_, _, f3⟩ := F 3 _ rfl cells3 c3 rfl
        obtain ⟨_, _, f4⟩ := F 4 _ rfl cells22 c4 rfl
        obtain ⟨_, _, f5⟩ := F 5 _ rfl cells22 c5 rfl
        obtain ⟨_, _, f6⟩ := F 6 _ rfl cells3 c6 rfl
        obtain ⟨_, _, f7⟩ := F 7 _ rfl cells3 c7 rfl
        obtain ⟨_, _, f8⟩ := F 8 _ rfl cells9 c8 rfl
        obtain ⟨_, _, f9⟩ := F 9 _ rfl cells23 c9 rfl
        obtain ⟨x0, e0, _⟩ := DataW.trod_int Try.underlying3 f0
        obtain ⟨x1, e1, _⟩ := DataW.trod_int Try.underlying3 f1
        obtain ⟨x2, e2, _⟩ := DataW.trod_int Try.underlying3 f2
        obtain ⟨x3, e3, _⟩ := DataW.trod_int Try.underlying3 f3
        obtain ⟨v4, x4, e4, g4⟩ := bytes_arg f4
        obtain ⟨v5, x5, e5, g5⟩ := bytes_arg f5
        obtain ⟨x6, e6, _⟩ := DataW.trod_int Try.underlying3 f6
        obtain ⟨x7, e7, _⟩ := DataW.trod_int Try.underlying3 f7
        obtain ⟨x8, e8, _⟩ := DataW.trod_string Try.underlying9 f8
        obtain ⟨v9, x9, e9, g9⟩ := opens_arg f9
        simp only [List.cons.injEq, and_true] at e0 e1 e2 e3 e4 e5 e6 e7 e8 e9
        subst e0 e1 e2 e3 e4 e5 e6 e7 e8 e9
        have z0 := hat 0 (by omega)
        have ea : ((a.add (i * 10)).add 0) = a.add (i * 10) := by simp [Addr.add]
        rw [ea] at z0
        obtain ⟨e5, hb⟩ := add_plain2 z0
        refine ⟨⟨x0, x1, x2, x3, x4, x5, x6, x7, x8, x9⟩, e5, hb, _, _, _, ⟨g4, g5, g9⟩, fun j hj => ?_⟩
        have z := hat j hj
        rw [e5] at z
        have ez : ((⟨a.block, a.off + i * 10, none⟩ : Addr).add j) = ⟨a.block, a.off + i * 10 + j, none⟩ := by unfold Addr.add; split <;> simp_all
        rw [ez] at z
        rw [z]
        match j, hj with
        | 0, _ => rfl
        | 1, _ => rfl
        | 2, _ => rfl
        | 3, _ => rfl
        | 4, _ => rfl
        | 5, _ => rfl
        | 6, _ => rfl
        | 7, _ => rfl
        | 8, _ => rfl
        | 9, _ => rfl
        | j + 10, h => exact absurd h (by omega)
    have ⟨g, hg⟩ : ∃ g : Nat → Rec, ∀ i, i < len → (a.add (i * 10)) = ⟨a.block, a.off + i * 10, none⟩ ∧ a.block < w.heap.size ∧ ∃ bv av uv, RecAt w (g i) bv av uv ∧ ∀ j, j < 10 → w.cell? ⟨a.block, a.off + i * 10 + j, none⟩ = (recCells (g i) bv av uv)[j]? :=
      ⟨fun i => if h : i < len then Classical.choose (el i h) else rec0, fun i h => by simp only [h, dif_pos]; exact Classical.choose_spec (el i h)⟩
    refine ⟨_, (List.range len).map g, rfl, some a, cap, by simp, by simpa using hl, hm, fun h0 => ?_⟩
    have h0 : 0 < len := by simpa using h0
    obtain ⟨e, hb, _⟩ := hg 0 h0
    have e0 : a.add (0 * 10) = a := by simp [Addr.add]
    rw [e0] at e
    refine ⟨a.block, a.off, by rw [e], hb, fun i hi => ?_⟩
    simp only [List.getElem_map, List.getElem_range]
    exact (hg i (by simpa using hi)).2.2
end

end Go.Proofs.Ytmchbciofdokfaa

namespace Go.Proofs.Ytmchbciofdokfaa
open Go.RowKit
set_option linter.unusedSimpArgs false
set_option linter.unusedVariables false

theorem recs_facts {w wr : World} {p : Option Addr} {n c : Nat} {l : List Rec} (h : Recs w (.slice p n c) l) (hn : New w wr) {k : Nat} (hk : k < l.length) :
    ∃ b o p1 c1 p2 c2 p3 c3, p = some ⟨b, o, none⟩ ∧ b < w.heap.size ∧ RecAt w l[k] (.slice p1 l[k].before.size c1) (.slice p2 l[k].after.size c2) (.slice p3 l[k].units.length c3) ∧
      ∀ (w' : World), New wr w' → ∀ j, j < 10 → w'.cell? ⟨b, o + k * 10 + j, none⟩ = (recCells l[k] (.slice p1 l[k].before.size c1) (.slice p2 l[k].after.size c2) (.slice p3 l[k].units.length c3))[j]? := by
  obtain ⟨b, o, p1, c1, p2, c2, p3, c3, e, hb, hr, hc⟩ := h.get hk
  exact ⟨b, o, p1, c1, p2, c2, p3, c3, e, hb, hr, fun w' hn' j hj => by rw [(hn.trans hn').cell _ _ hb]; exact hc j hj⟩

end Go.Proofs.Ytmchbciofdokfaa
