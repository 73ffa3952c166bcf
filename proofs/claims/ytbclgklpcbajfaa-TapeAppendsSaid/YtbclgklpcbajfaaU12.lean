/- An argument opened: a slice of records. Words for the walk of progenylaw03.TapeAppends. The walk of progenylaw03.TapeAppends, for every records, bytes and number. -/
import Derived.Test.YtbclgklpcbajfaaA14
import Derived.Test.YtbclgklpcbajfaaU5
import Derived.Deep.Grids
import Derived.Test.YtbclgklpcbajfaaU8
import Derived.Test.YtbclgklpcbajfaaA12
import Derived.Test.YtbclgklpcbajfaaT10
namespace Go.Proofs.Ytbclgklpcbajfaa
open Go.RowKit Go.ChangeShapes Go.WideShapes
set_option linter.unusedVariables false

section
variable {H : Type} {enc : TypeId × Value → H} {w : World} {base : Nat} {held : Bool}

theorem add_plain2 {a : Addr} {k : Nat} {v : Value} (h : w.cell? (a.add k) = some v) : a.add k = ⟨a.block, a.off + k, none⟩ ∧ a.block < w.heap.size := by
  by_cases hk : k = 0
  · subst hk
    have e0 : a.add 0 = a := by simp [Addr.add]
    rw [e0] at h ⊢
    exact addr_plain h
  · have e0 : a.add k = ⟨a.block, a.off + k, none⟩ := by unfold Addr.add; rw [if_neg hk]
    rw [e0] at h ⊢
    exact ⟨rfl, (addr_plain h).2⟩

set_option maxRecDepth 100000 in
/-- A slice of records that came in. -/
theorem recs_arg {fuel : Nat} {cs : List Value} {x : DataW H × List MemPlace} (h : DataW.trod enc Try.prog w base (fun _ => true) held fuel 81 cs = some x) : ∃ v l, cs = [v] ∧ Recs w v l := by
  rcases Deep.open_slice Try.underlying81 h with ⟨rfl, _⟩ | ⟨a, len, cap, m, n, D, Pl, rfl, _, hl, hm, hmm, _, hi⟩
  · exact ⟨_, [], rfl, none, 0, rfl, Nat.le_refl _, by decide, fun h => absurd h (by decide)⟩
  · rw [cells25] at hi
    have hlm : len ≤ m := by rw [hmm]; split <;> omega
    have el : ∀ i, i < len → ∃ u : Rec, (a.add (i * 10)) = ⟨a.block, a.off + i * 10, none⟩ ∧ a.block < w.heap.size ∧ ∃ bv av uv, RecAt w u bv av uv ∧ ∀ j, j < 10 → w.cell? ⟨a.block, a.off + i * 10 + j, none⟩ = (recCells u bv av uv)[j]? := by
      intro i hlt
      obtain ⟨cs', hc, ht⟩ := hi i (by omega)
      obtain ⟨_, hcl, hat⟩ := World.cells?_some hc
      match cs', hcl with
      | [c0, c1, c2, c3, c4, c5, c6, c7, c8, c9], _ =>
        have F := fun j f hj h1 v hv => field_at Try.underlying25 ht j f hj h1 v hv
        obtain ⟨_, _, f0⟩ := F 0 _ rfl cells3 c0 rfl
        obtain ⟨_, _, f1⟩ := F 1 _ rfl cells3 c1 rfl
        obtain ⟨_, _, f2⟩ := F 2 _ rfl cells3 c2 rfl
        obtain ⟨_, _, f3⟩ := F 3 _ rfl cells3 c3 rfl
        obtain ⟨_, _, f4⟩ := F 4 _ rfl cells22 c4 rfl
        obtain ⟨_, _, f5⟩ := F 5 _ rfl cells22 c5 rfl
        obtain ⟨_, _, f6⟩ := F 6 _ rfl cells3 c6 rfl
        obtain ⟨_, _, f7⟩ := F 7 _ rfl cells3 c7 rfl
        obtain ⟨_, _, f8⟩ := F 8 _ rfl cells9 c8 rfl
        obtain ⟨_, _, f9⟩ := F 9 _ rfl cells23 c9 rfl
        obtain ⟨x0, e0, _⟩ := DataW.trod_int Try.underlying3 f0
        obtain ⟨x1, e1, _⟩ := DataW.trod_int Try.underlying3 f1
        obtain ⟨x2, e2, _⟩ := DataW.trod_int Try.underlying3 f2
        obtain ⟨x3, e3, _⟩ := DataW.trod_int Try.underlying3 f3
        obtain ⟨v4, x4, e4, g4⟩ := bytes_arg f4
        obtain ⟨v5, x5, e5, g5⟩ := bytes_arg f5
        obtain ⟨x6, e6, _⟩ := DataW.trod_int Try.underlying3 f6
        obtain ⟨x7, e7, _⟩ := DataW.trod_int Try.underlying3 f7
        obtain ⟨x8, e8, _⟩ := DataW.trod_string Try.underlying9 f8
        obtain ⟨v9, x9, e9, g9⟩ := opens_arg f9
        simp only [List.cons.injEq, and_true] at e0 e1 e2 e3 e4 e5 e6 e7 e8 e9
        subst e0 e1 e2 e3 e4 e5 e6 e7 e8 e9
        have z0 := hat 0 (by omega)
        have ea : ((a.add (i * 10)).add 0) = a.add (i * 10) := by simp [Addr.add]
        rw [ea] at z0
        obtain ⟨e5, hb⟩ := add_plain2 z0
        refine ⟨⟨x0, x1, x2, x3, x4, x5, x6, x7, x8, x9⟩, e5, hb, _, _, _, ⟨g4, g5, g9⟩, fun j hj => ?_⟩
        have z := hat j hj
        rw [e5] at z
        have ez : ((⟨a.block, a.off + i * 10, none⟩ : Addr).add j) = ⟨a.block, a.off + i * 10 + j, none⟩ := by unfold Addr.add; split <;> simp_all
        rw [ez] at z
        rw [z]
        match j, hj with
        | 0, _ => rfl
        | 1, _ => rfl
        | 2, _ => rfl
        | 3, _ => rfl
        | 4, _ => rfl
        | 5, _ => rfl
        | 6, _ => rfl
        | 7, _ => rfl
        | 8, _ => rfl
        | 9, _ => rfl
        | j + 10, h => exact absurd h (by omega)
    have ⟨g, hg⟩ : ∃ g : Nat → Rec, ∀ i, i < len → (a.add (i * 10)) = ⟨a.block, a.off + i * 10, none⟩ ∧ a.block < w.heap.size ∧ ∃ bv av uv, RecAt w (g i) bv av uv ∧ ∀ j, j < 10 → w.cell? ⟨a.block, a.off + i * 10 + j, none⟩ = (recCells (g i) bv av uv)[j]? :=
      ⟨fun i => if h : i < len then Classical.choose (el i h) else rec0, fun i h => by simp only [h, dif_pos]; exact Classical.choose_spec (el i h)⟩
    refine ⟨_, (List.range len).map g, rfl, some a, cap, by simp, by simpa using hl, hm, fun h0 => ?_⟩
    have h0 : 0 < len := by simpa using h0
    obtain ⟨e, hb, _⟩ := hg 0 h0
    have e0 : a.add (0 * 10) = a := by simp [Addr.add]
    rw [e0] at e
    refine ⟨a.block, a.off, by rw [e], hb, fun i hi => ?_⟩
    simp only [List.getElem_map, List.getElem_range]
    exact (hg i (by simpa using hi)).2.2
end

end Go.Proofs.Ytbclgklpcbajfaa

namespace Go.Proofs.Ytbclgklpcbajfaa
open Go.RowKit
set_option linter.unusedSimpArgs false
set_option linter.unusedVariables false

/-- The log and the records that are wanted, side by side. -/
structure Wanted (w0 wr : World) (b : Nat) (ow : Option Nat) (tb : Nat) (ot : Option Nat) (A : ADisk) (T : ATape) (m : Nat) (v : Value) (l : List Rec) : Prop where
  log : Log w0 wr b ow tb ot A T
  calm : Calm A m
  has : HasLog A T.recs
  recs : T.recs = l
  row : ∃ xs, wr.ownsRow w0.heap.size 25 10 v l.length xs ∧ RecCells (RecAt w0) l xs
  ne : ∀ k, v.ownBlock = some k → ot ≠ some k
theorem Wanted.newer {w0 w w' : World} {b tb : Nat} {ow ot : Option Nat} {A : ADisk} {T : ATape} {m : Nat} {v : Value} {l : List Rec} (h : Wanted w0 w b ow tb ot A T m v l) (hn : New w w') : Wanted w0 w' b ow tb ot A T m v l := by
  obtain ⟨xs, h1, h2⟩ := h.row
  exact { h with log := h.log.newer hn, row := ⟨xs, own_old h1 hn, h2⟩ }
theorem row_not_logs {w0 w : World} {b tb : Nat} {ow ot : Option Nat} {A : ADisk} {T : ATape} (hL : Log w0 w b ow tb ot A T) {base : Nat} {v : Value} {n : Nat} {xs : List Value} (hr : w.ownsRow base 25 10 v n xs) (hne : ∀ k, v.ownBlock = some k → ot ≠ some k) : ∀ k, v.ownBlock = some k → ¬ logs b ow tb ot k := by
  intro k hk hs
  rcases hs with hs | rfl | hs
  · obtain ⟨c, t, e, ht⟩ := hL.disk.typed hs
    have : v.ownBlock ≠ some k := own_ne hr e (by rcases ht with rfl | rfl <;> decide)
    exact this hk
  · obtain ⟨v', e, _⟩ := hL.tape
    exact own_ne hr e (by decide) hk
  · exact hne k hk hs
/-- Behind an Append that went well, and the record put behind those that are wanted. -/
theorem Wanted.append {w0 w w' : World} {b tb : Nat} {ow ot : Option Nat} {A : ADisk} {T : ATape} {m : Nat} {v : Value} {l : List Rec} (h : Wanted w0 w b ow tb ot A T m v l) {r : Rec} {e : Ending} (h0 : appendE T r = 0) (hA : Appended w0 b ow tb ot A T r w e w') :
    ∃ ow' ot', e = .returned (.tuple #[.int .i64 ((l.length : Int) + 1), .int .i64 0]) ∧ Log w0 w' b ow' tb ot' (appendA A T r) (appendT T r) ∧ Calm (appendA A T r) (m + 1) ∧ HasLog (appendA A T r) (l ++ [r]) ∧ (appendT T r).recs = l ++ [r] ∧ (appendT T r).forced = T.forced ∧
      (∃ xs, w'.ownsRow w0.heap.size 25 10 v l.length xs ∧ RecCells (RecAt w0) l xs) ∧ (∀ k, v.ownBlock = some k → ot' ≠ some k) ∧ New w0 w' := by
  obtain ⟨ow', ot', he, h1, h2, h3, h4⟩ := hA
  obtain ⟨g1, g2, g3, g4⟩ := h.has.append h.calm h0
  obtain ⟨xs, hr, hc⟩ := h.row
  refine ⟨ow', ot', ?_, h1, g2, ?_, ?_, g4, ⟨xs, own_turn hr h2 (row_not_logs h.log hr h.ne), hc⟩, fun k hk e => ?_, h1.new⟩
  · rw [he]; simp only [appendN, h0, if_true, h.recs]
  · rw [← h.recs, ← g3]; exact g1
  · rw [g3, h.recs]
  · rcases h3 k e with h' | h'
    · exact h.ne k hk h'
    · have := (hr.lt k hk).2; omega
/-- Behind a Force. -/
theorem Wanted.force {w0 w w' : World} {b tb : Nat} {ow ot : Option Nat} {A : ADisk} {T : ATape} {m : Nat} {v : Value} {l : List Rec} (h : Wanted w0 w b ow tb ot A T m v l) {e : Ending} (hA : Forced w0 b ow tb ot A T w e w') :
    ∃ ow', e = .returned (.int .i64 0) ∧ Wanted w0 w' b ow' tb ot (forceA A T) (forceT A T) (m + 1) v l ∧ (forceT A T).forced = l.length := by
  obtain ⟨ow', he, h1, h2, h3⟩ := hA
  obtain ⟨g1, g2, g3, g4, g5⟩ := h.has.force h.calm
  obtain ⟨xs, hr, hc⟩ := h.row
  exact ⟨ow', by rw [he, g3], ⟨h1, g2, g1, by rw [g4, h.recs], ⟨xs, own_turn hr h2 (row_not_logs h.log hr h.ne), hc⟩, h.ne⟩, by rw [g5, h.recs]⟩
/-- The row of those that are wanted has one more. -/
theorem Wanted.put {w0 w w1 w2 : World} {b tb : Nat} {ow ot : Option Nat} {A : ADisk} {T : ATape} {m : Nat} {v v' : Value} {l : List Rec} {r : Rec} (hL : Log w0 w b ow tb ot A T) (hC : Calm A m) (hH : HasLog A (l ++ [r])) (hR : T.recs = l ++ [r])
    {xs : List Value} (hr : w.ownsRow w0.heap.size 25 10 v l.length xs) (hc : RecCells (RecAt w0) l xs) (hne : ∀ k, v.ownBlock = some k → ot ≠ some k) (hn : New w w1) {bv av uv : Value} (hv : RecAt w0 r bv av uv)
    (hown : w2.ownsRow w0.heap.size 25 10 v' (l.length + 1) (xs ++ (recCells r bv av uv).toList)) (hg : w1.grownBy w2 v.ownBlock) (hb : v'.ownBlock = v.ownBlock ∨ v'.ownBlock = some w1.heap.size) : Wanted w0 w2 b ow tb ot A T m v' (l ++ [r]) := by
  have ht : Turn (fun k => v.ownBlock = some k) w w2 := Turn.grown (Turn.of_new hn) hg (fun k _ e => e)
  have hty : ∀ k, v.ownBlock = some k → ∃ c, w.heap[k]? = some (.cells c 25 (0, 0)) := by
    intro k hk
    rcases hr.2 with ⟨e, _⟩ | ⟨g, cap, cur, e, _, hh, _⟩
    · rw [e] at hk; simp [Value.ownBlock] at hk
    · rw [e] at hk
      simp only [Value.ownBlock, Option.some.injEq] at hk
      subst hk
      exact ⟨_, hh⟩
  have a5 := apart_own hr (show (25 : TypeId) ≠ 5 by decide)
  have a90 : Apart90 (fun k => v.ownBlock = some k) w := fun k c fr hk hh => own_ne hr hh (by decide) hk
  obtain ⟨v1, e1, _⟩ := id hL.tape
  have hd := disk_keep hL.disk ht (fun k hk => by obtain ⟨c, hc⟩ := hty k hk; exact ⟨_, _, _, hc, by decide, by decide, by decide⟩)
  have htp := hL.tape.turn ht (own_ne hr e1 (by decide)) (fun k hk hs => hne k hs hk) a5 a90
  refine ⟨⟨hd, htp, Below.trans hL.new (ht.below (fun k e => own_from hr k e) hL.new.size), hL.bb, hL.oo, hL.tt, hL.rr⟩, hC, by rw [hR]; exact hH, hR, ⟨_, by rw [List.length_append]; exact hown, hc.snoc hv⟩, fun k hk e => ?_⟩
  rcases hb with h | h
  · rw [h] at hk; exact hne k hk e
  · rw [h] at hk
    injection hk with hk
    subst hk
    obtain ⟨c, hc⟩ := hL.tape.row e
    have := (Array.getElem?_eq_some_iff.1 hc).1
    have := hn.size
    omega
/-- Where the log is opened once more. -/
theorem Wanted.again {w0 w : World} {b tb : Nat} {ow ot : Option Nat} {A : ADisk} {T : ATape} {m : Nat} {v : Value} {l : List Rec} (h : Wanted w0 w b ow tb ot A T m v l) : Mine w0 w b ow A := ⟨h.log.disk, h.log.new, h.log.bb, h.log.oo⟩

end Go.Proofs.Ytbclgklpcbajfaa

namespace Go.Proofs.Ytbclgklpcbajfaa
open Go.RowKit
set_option linter.unusedSimpArgs false
set_option linter.unusedVariables false

theorem Wanted.kept {w0 w w' : World} {b tb : Nat} {ow ot : Option Nat} {A : ADisk} {T : ATape} {m : Nat} {v : Value} {l : List Rec} (h : Wanted w0 w b ow tb ot A T m v l) {r : Rec} {e : Ending} (hv : validB r = false) (hA : Appended w0 b ow tb ot A T r w e w') :
    ∃ ow' ot', e = .returned (.tuple #[.int .i64 0, .int .i64 2]) ∧ Wanted w0 w' b ow' tb ot' A T m v l := by
  obtain ⟨ow', ot', he, h1, h2, h3, h4⟩ := hA
  have e0 : appendE T r = 2 := by simp [appendE, hv]
  have e1 : ¬ appendE T r = 0 := by rw [e0]; decide
  have eA : appendA A T r = A := by simp only [appendA, if_neg e1]
  have eT : appendT T r = T := by simp only [appendT, if_neg e1]
  rw [eA, eT] at h1
  obtain ⟨xs, hr, hc⟩ := h.row
  refine ⟨ow', ot', ?_, ⟨h1, h.calm, h.has, h.recs, ⟨xs, own_turn hr h2 (row_not_logs h.log hr h.ne), hc⟩, fun k hk e => ?_⟩⟩
  · rw [he, e0]; simp only [appendN, if_neg e1]
  · rcases h3 k e with h' | h'
    · exact h.ne k hk h'
    · have := (hr.lt k hk).2; omega
theorem Wanted.mono {w0 w : World} {b tb : Nat} {ow ot : Option Nat} {A : ADisk} {T : ATape} {m m' : Nat} {v : Value} {l : List Rec} (h : Wanted w0 w b ow tb ot A T m v l) (hm : m ≤ m') : Wanted w0 w b ow tb ot A T m' v l := { h with calm := h.calm.mono hm }
/-- The state of the second loop. -/
def ALoop (w wr : World) (b tb : Nat) (m : Nat) (fc : Nat) (v : Value) (l : List Rec) : Prop := ∃ ow ot A T, Wanted w wr b ow tb ot A T m v l ∧ T.forced = fc
theorem recs_facts {w wr : World} {p : Option Addr} {n c : Nat} {l : List Rec} (h : Recs w (.slice p n c) l) (hn : New w wr) {k : Nat} (hk : k < l.length) :
    ∃ b o p1 c1 p2 c2 p3 c3, p = some ⟨b, o, none⟩ ∧ b < w.heap.size ∧ RecAt w l[k] (.slice p1 l[k].before.size c1) (.slice p2 l[k].after.size c2) (.slice p3 l[k].units.length c3) ∧
      ∀ (w' : World), New wr w' → ∀ j, j < 10 → w'.cell? ⟨b, o + k * 10 + j, none⟩ = (recCells l[k] (.slice p1 l[k].before.size c1) (.slice p2 l[k].after.size c2) (.slice p3 l[k].units.length c3))[j]? := by
  obtain ⟨b, o, p1, c1, p2, c2, p3, c3, e, hb, hr, hc⟩ := h.get hk
  exact ⟨b, o, p1, c1, p2, c2, p3, c3, e, hb, hr, fun w' hn' j hj => by rw [(hn.trans hn').cell _ _ hb]; exact hc j hj⟩

set_option maxRecDepth 100000 in
set_option maxHeartbeats 16000000 in
theorem tapeAppends_any (v0 v1 : Value) (l : List Rec) (fs : ByteArray) (n : Int) (w : World) (h0 : Recs w v0 l) (h1 : Bytes w v1 fs) : Calls Try.prog 13 #[v0, v1, .int .i64 n] w fun e w' => e = .returned (.bool true) ∧ New w w' := by
  have H0 := hid h0
  have H1 := hid h1
  obtain ⟨p, c, rfl, g1, g2⟩ := h0.form
  obtain ⟨q, d, rfl, g3, g4, -⟩ := h1
  unfold maxLen at g2 g4
  clear h0
  go_enter Try.func13, Try.ntmps13
  go_wp2
  go_loopw [7] (fun i wr => ∃ k : Nat, k ≤ l.length ∧ i = .int .i64 k ∧ Hid (New w wr)) (fun i _ => l.length - (intOf i).toNat)
  case atStart => exact ⟨0, Nat.zero_le _, rfl, hid (New.refl w)⟩
  case round =>
    obtain ⟨k, hk, rfl, hyp⟩ := hrel
    by_cases hlt : k < l.length
    · obtain ⟨b1, o1, p1, c1, p2, c2, p3, c3, rfl, hb1, hr1, hc1⟩ := recs_facts H0.out hyp.out hlt
      obtain ⟨r, er⟩ : ∃ r, r = l[k] := ⟨_, rfl⟩
      rw [← er] at hr1 hc1
      clear er
      obtain ⟨x0, x1, x2, x3, x4, x5, x6, x7, x8, x9⟩ := rec_ten (hc1 _ (New.refl wr))
      have HR1 := hid hr1
      clear hc1 hr1
      go_wp2_with fail
      refine (large_any r _ _ _ _ (HR1.out.new hyp.out)).mono ?_
      rintro e w1 ⟨rfl, n1⟩
      have N1 := hid (hyp.out.trans n1)
      clear x0 x1 x2 x3 x4 x5 x6 x7 x8 x9 n1
      cases hl : large r with
      | true =>
        go_wp2_with fail
        refine (first_any _).mono ?_
        rintro e w2 ⟨rfl, n2⟩
        go_wp2
        go_ret
        exact ⟨rfl, N1.out.trans n2⟩
      | false =>
        clear hl
        go_wp2
        go_roundw
        case rel => exact ⟨k + 1, by omega, by go_num, N1⟩
        case measure => simp [intOf]; omega
    · obtain rfl : k = l.length := by omega
      by_cases a1 : 40 < l.length
      · have q1 : decide (40 < l.length) = true := by simpa using a1
        have q2 : decide ((40 : Int) < (l.length : Int)) = true := by simp; omega
        clear a1
        go_wp2_with fail
        refine (first_any _).mono ?_
        rintro e w2 ⟨rfl, n2⟩
        go_wp2
        go_ret
        exact ⟨rfl, hyp.out.trans n2⟩
      have q1 : decide (40 < l.length) = false := by simpa using a1
      have q2 : decide ((40 : Int) < (l.length : Int)) = false := by simp; omega
      by_cases a2 : 60 < fs.size
      · have q3 : decide (60 < fs.size) = true := by simpa using a2
        have q4 : decide ((60 : Int) < (fs.size : Int)) = true := by simp; omega
        go_wp2_with fail
        refine (first_any _).mono ?_
        rintro e w2 ⟨rfl, n2⟩
        go_wp2
        go_ret
        exact ⟨rfl, hyp.out.trans n2⟩
      have q3 : decide (60 < fs.size) = false := by simpa using a2
      have q4 : decide ((60 : Int) < (fs.size : Int)) = false := by simp; omega
      have A1 := hid (show l.length ≤ 40 by omega)
      have A2 := hid (show fs.size ≤ 60 by omega)
      clear a1 a2
      go_wp2_with fail
      refine (new_any _).mono ?_
      rintro e w2 ⟨rfl, rfl⟩
      have M1 := hid (Mine.made w wr hyp.out)
      go_wp2_with fail
      refine (open_any w wr.heap.size none newA 0 _ M1.out calm_new (by omega)).mono ?_
      rintro e w3 ⟨ow3, tb, ot3, rfl, hL3, ht3, -, htb3, hot3⟩
      rw [HasLog.new.opened.1, HasLog.new.opened.2] at hL3
      have W3 : Hid (Wanted w w3 wr.heap.size ow3 tb ot3 newA ⟨[], 0, false⟩ 0 (.slice none 0 0) []) := hid ⟨hL3, calm_new, HasLog.new, rfl, ⟨[], World.ownsRow_nil _ _ _ _, RecCells.nil _⟩, fun k hk => by simp [Value.ownBlock] at hk⟩
      clear hL3 ht3 htb3 hot3 hyp M1 q1 q2 q3 q4 hlt hk
      generalize wr.heap.size = b at W3 ⊢
      go_wp2
      go_loopw [11, 12, 13, 14, 15, 16] (fun v f i _ _ _ wr => ∃ k : Nat, k ≤ l.length ∧ i = .int .i64 k ∧ ∃ fc : Nat, f = .int .i64 fc ∧ Hid (ALoop w wr b tb (100 * k) fc v ((l.take k).filter validB))) (fun _ _ i _ _ _ _ => l.length - (intOf i).toNat)
      case atStart => exact ⟨0, Nat.zero_le _, rfl, 0, rfl, hid ⟨_, _, _, _, W3.out, rfl⟩⟩
      case round =>
        obtain ⟨k, hk, rfl, fc, rfl, hyp⟩ := hrel
        obtain ⟨ow, ot, A, T, hW, hfc⟩ := hyp.out
        have HW := hid hW
        have HFC := hid hfc
        have HNW := hid hW.log.new
        clear hyp hW hfc
        obtain ⟨xs, hr, hc⟩ := HW.out.row
        obtain ⟨va, vc, rfl⟩ := own_len hr
        have HROW := hid hr
        have HCEL := hid hc
        clear hr hc
        obtain ⟨want, hwant⟩ : ∃ want, want = (l.take k).filter validB := ⟨_, rfl⟩
        rw [← hwant] at HW HROW HCEL ⊢
        have HWA := hid hwant
        have WL : Hid (want.length ≤ 40) := hid (by
          rw [hwant]
          have h1 := List.length_filter_le validB (l.take k)
          have h2 := List.length_take_le k l
          have := A1.out
          omega)
        clear hwant
        by_cases hlt : k < l.length
        · obtain ⟨b1, o1, p1, c1, p2, c2, p3, c3, rfl, hb1, hr1, hc1⟩ := recs_facts H0.out (New.refl w) hlt
          have TK : Hid ((l.take (k + 1)).filter validB = if validB l[k] then want ++ [l[k]] else want) := hid (by
            rw [← List.take_append_getElem hlt, List.filter_append, ← HWA.out]
            cases h : validB l[k] <;> simp [h])
          obtain ⟨r, er⟩ : ∃ r, r = l[k] := ⟨_, rfl⟩
          rw [← er] at hr1 hc1 TK
          clear er
          obtain ⟨x0, x1, x2, x3, x4, x5, x6, x7, x8, x9⟩ := rec_ten (hc1 _ HNW.out)
          have HR1 := hid hr1
          have HC1 := hid hc1
          clear hc1 hr1
          cases hv : validB r with
          | false =>
            have HV := hid hv
            rw [hv] at TK
            clear hv
            go_wp2_with fail
            refine (tappend_bad w b ow tb ot A T r _ _ _ _ HW.out.log (HR1.out.new HNW.out) (by simp [appendE, HV.out]) (by rw [HW.out.recs]; have := WL.out; omega)).mono ?_
            rintro e w4 hA4
            obtain ⟨ow4, ot4, rfl, hW4⟩ := HW.out.kept HV.out hA4
            have HW4 := hid hW4
            have HT4 := hid (show New w w4 from hW4.log.new)
            clear hA4 hW4 x0 x1 x2 x3 x4 x5 x6 x7 x8 x9
            obtain ⟨x0, x1, x2, x3, x4, x5, x6, x7, x8, x9⟩ := rec_ten (HC1.out _ HT4.out)
            go_wp2_with fail
            refine (refValid_any r _ _ _ _ (HR1.out.new HT4.out)).mono ?_
            rintro e w5 ⟨rfl, n5⟩
            rw [HV.out]
            have HW5 := hid ((HW4.out.newer n5).mono (show 100 * k ≤ 100 * (k + 1) by omega))
            clear n5 x0 x1 x2 x3 x4 x5 x6 x7 x8 x9
            go_wp2
            go_roundw
            case rel =>
              have e := TK.out
              simp only [Bool.false_eq_true, if_false] at e
              exact ⟨k + 1, by omega, by go_num, fc, rfl, hid (show ALoop w w5 b tb (100 * (k + 1)) fc _ _ from ⟨ow4, ot4, A, T, by rw [e]; exact HW5.out, HFC.out⟩)⟩
            case measure => simp [intOf]; omega
          | true =>
            have HV := hid hv
            rw [hv] at TK
            clear hv
            have E0 : Hid (appendE T r = 0) := hid (by
              have h1 : ¬ T.recs.length = 3000 := by rw [HW.out.recs]; have := WL.out; omega
              simp [appendE, HV.out, h1])
            go_wp2_with fail
            refine (tappend_ok w b ow tb ot A T (100 * k) r _ _ _ _ HW.out.log HW.out.calm (by have := A1.out; omega) (fun w' ht => HR1.out.new (Below.trans HNW.out (ht.below (logs_lt HW.out.log) HNW.out.size))) E0.out (by rw [HW.out.recs]; have := WL.out; omega)).mono ?_
            rintro e w4 hA4
            obtain ⟨ow4, ot4, rfl, hL4, hC4, hH4, hR4, hF4, ⟨xs4, hr4, hc4⟩, hne4, hn4⟩ := HW.out.append E0.out hA4
            have L4 := hid hL4
            have C4 := hid hC4
            have H4 := hid hH4
            have R4 := hid hR4
            have F4 := hid (hF4.trans HFC.out)
            have O4 := hid hr4
            have K4 := hid hc4
            have NE4 := hid hne4
            have N4 := hid hn4
            generalize appendA A T r = A4 at *
            generalize appendT T r = T4 at *
            clear hA4 hL4 hC4 hH4 hR4 hF4 hr4 hc4 hne4 hn4 x0 x1 x2 x3 x4 x5 x6 x7 x8 x9
            obtain ⟨x0, x1, x2, x3, x4, x5, x6, x7, x8, x9⟩ := rec_ten (HC1.out _ N4.out)
            go_wp2_with fail
            refine (refValid_any r _ _ _ _ (HR1.out.new N4.out)).mono ?_
            rintro e w5 ⟨rfl, n5⟩
            rw [HV.out]
            have L5 := hid (L4.out.newer n5)
            have O5 := hid (own_old O4.out n5)
            have N5 := hid (N4.out.trans n5)
            have lt5 : b1 < w5.heap.size := Nat.lt_of_lt_of_le hb1 N5.out.size
            clear n5 x0 x1 x2 x3 x4 x5 x6 x7 x8 x9
            obtain ⟨x0, x1, x2, x3, x4, x5, x6, x7, x8, x9⟩ := rec_ten (HC1.out _ N5.out)
            go_wp2_with (at_builtin; with_reducible refine app_rec rfl _ _ rfl _ want.length xs4 rfl w.heap.size (own_old O5.out ((New.refl w5).alloc _ _)) (Nat.le_trans N5.out.size (by simp)) w5.heap.size r p1 p2 p3 _ c1 _ c2 _ c3 rfl (cells_of (heap_alloc_new w5 _)) (by have := WL.out; omega) ?_)
            intro v6 w6 hown hg hblk
            have W6 := hid (Wanted.put L5.out C4.out H4.out R4.out O5.out K4.out NE4.out ((New.refl w5).alloc _ _) HR1.out hown hg (by simpa using hblk))
            obtain ⟨A6, c6, rfl⟩ := own_len hown
            have HT := hid (show (l.take (k + 1)).filter validB = want ++ [r] by have e := TK.out; simpa using e)
            have WL6 := hid (show (want ++ [r]).length = want.length + 1 by simp)
            clear hown hg hblk x0 x1 x2 x3 x4 x5 x6 x7 x8 x9 TK
            clear lt5
            go_wp2
            go_loopw [12, 16] (fun f j wr' => ∃ q' : Nat, q' ≤ fs.size ∧ j = .int .i64 q' ∧ ∃ fc' : Nat, f = .int .i64 fc' ∧ Hid (ALoop w wr' b tb (100 * k + 1 + q') fc' (.slice A6 (want.length + 1) c6) (want ++ [r]))) (fun _ j _ => fs.size - (intOf j).toNat)
            case atStart => exact ⟨0, Nat.zero_le _, rfl, fc, rfl, hid ⟨_, _, _, _, W6.out, F4.out⟩⟩
            case round =>
              obtain ⟨j, hj, rfl, f, rfl, hyp⟩ := hrel
              obtain ⟨ow7, ot7, A7, T7, hW7, hf7⟩ := hyp.out
              have W7 := hid hW7
              have F7 := hid hf7
              have N7 := hid hW7.log.new
              clear hyp hW7 hf7
              by_cases hjl : j < fs.size
              · obtain ⟨b2, o2, e2, hb2, hx⟩ : ∃ b2 o2, q = some ⟨b2, o2, none⟩ ∧ b2 < w.heap.size ∧ w.cell? ⟨b2, o2 + j, none⟩ = some (.int .u8 (fs[j].toNat : Int)) := by
                  obtain ⟨p', c', e, -, -, h3⟩ := H1.out
                  injection e with e1 e2 e3
                  subst e1
                  obtain ⟨b2, o2, e2, hb2, hx⟩ := h3 (by omega)
                  refine ⟨b2, o2, e2, hb2, ?_⟩
                  rw [hx j (by rw [byteVals_length]; exact hjl), byteVals_getD fs j hjl]
                subst e2
                rw [← N7.out.cell _ _ hb2] at hx
                have hu : fs[j].toNat ≤ 255 := by have := fs[j].toNat_lt; omega
                generalize fs[j].toNat = u at hx hu
                by_cases huk : u = k
                · have q5 : ((u : Int) == (k : Int)) = true := by simp; omega
                  clear huk
                  go_wp2_with fail
                  refine (force_any w b ow7 tb ot7 A7 T7 _ W7.out.log (by have := W7.out.calm.falls; omega) (by have := W7.out.calm.acts; have := A1.out; have := A2.out; omega) (by have := W7.out.calm.waits; have := A1.out; have := A2.out; omega)).mono ?_
                  rintro e w8 hA8
                  obtain ⟨ow8, rfl, hW8, hF8⟩ := W7.out.force hA8
                  have W8 := hid hW8
                  have F8 := hid (hF8.trans WL6.out)
                  clear hA8 hW8 hF8 hx q5
                  go_wp2
                  go_roundw
                  case rel => exact ⟨j + 1, by omega, by go_num, want.length + 1, by go_num, hid (show ALoop w w8 b tb (100 * k + 1 + (j + 1)) _ _ _ from ⟨ow8, ot7, _, _, W8.out, F8.out⟩)⟩
                  case measure => simp [intOf]; omega
                · have q5 : ((u : Int) == (k : Int)) = false := by simp; omega
                  clear huk
                  go_wp2
                  go_roundw
                  case rel => exact ⟨j + 1, by omega, by go_num, f, rfl, hid (show ALoop w _ b tb (100 * k + 1 + (j + 1)) _ _ _ from ⟨ow7, ot7, A7, T7, W7.out.mono (by omega), F7.out⟩)⟩
                  case measure => simp [intOf]; omega
              · obtain rfl : j = fs.size := by omega
                have RL := hid (show T7.recs.length = want.length + 1 by rw [W7.out.recs]; exact WL6.out)
                go_wp2_with fail
                refine (forced_any tb ot7 b T7 _ W7.out.log.tape).mono ?_
                rintro e w' ⟨rfl, rfl⟩
                rw [F7.out]
                have q6 : ((f : Int) != (f : Int)) = false := by simp
                go_wp2_with fail
                refine (last_any tb ot7 b T7 _ W7.out.log.tape).mono ?_
                rintro e w' ⟨rfl, rfl⟩
                rw [RL.out]
                have q7 : (((want.length + 1 : Nat) : Int) != (want.length : Int) + 1) = false := by simp
                go_wp2_with fail
                refine (free_any tb ot7 b T7 _ W7.out.log.tape (by rw [RL.out]; have := WL.out; omega)).mono ?_
                rintro e w' ⟨rfl, rfl⟩
                rw [RL.out]
                have q8 : ((3000 : Int) - ((want.length + 1 : Nat) : Int) != 3000 - ((want.length : Int) + 1)) = false := by simp
                have wl : want.length ≤ 40 := WL.out
                go_wp2
                go_roundw
                case rel => exact ⟨k + 1, by omega, by go_num, f, rfl, hid (show ALoop w _ b tb (100 * (k + 1)) _ _ _ from ⟨ow7, ot7, A7, T7, by rw [HT.out]; exact W7.out.mono (by have := A2.out; omega), F7.out⟩)⟩
                case measure => simp [intOf]; omega
        · obtain rfl : k = l.length := by omega
          have wl : want.length ≤ 40 := WL.out
          have HV : Hid (∀ r ∈ T.recs, validB r = true) := hid HW.out.has.valid
          go_wp2_with fail
          refine (records_any tb ot b T _ HW.out.log.tape HV.out (by rw [HW.out.recs]; omega)).mono ?_
          rintro e w4 ⟨v4, ys, rfl, hr4, hc4, n4⟩
          have R4 := hid (Recs.owned hr4 hc4)
          rw [HW.out.recs] at R4
          have W4 := hid (HW.out.newer n4)
          have HROW4 := hid (own_old HROW.out n4)
          have RW4 := hid (Recs.row HROW4.out (HCEL.out.imp fun r _ _ _ hr => hr.new W4.out.log.new))
          clear hr4 hc4 n4
          go_wp2_with fail
          refine (sameRecords_any _ _ want want _ R4.out RW4.out).mono ?_
          rintro e w5 ⟨rfl, n5⟩
          rw [show decide (want = want) = true by simp]
          have W5 := hid (W4.out.newer n5)
          have RW5 := hid (RW4.out.new n5)
          have n5' := hid n5
          clear n5 R4
          by_cases hn : 1 ≤ n ∧ n ≤ (want.length : Int)
          · obtain ⟨i, rfl⟩ : ∃ i : Nat, n = (i : Int) + 1 := ⟨(n - 1).toNat, by omega⟩
            have hi : i < want.length := by omega
            have hi2 : i < T.recs.length := by rw [W5.out.recs]; exact hi
            have HI := hid hi
            have HI2 := hid hi2
            have q1 : decide ((i : Int) + 1 < 1) = false := by simp; omega
            have q2 : decide ((want.length : Int) < (i : Int) + 1) = false := by simp; omega
            clear hn hi hi2
            go_wp2_with fail
            refine (record_in tb ot b T i _ W5.out.log.tape HI2.out HV.out (by rw [W5.out.recs]; omega)).mono ?_
            rintro e w6 ⟨bv, av, uv, rfl, hin, n6⟩
            obtain ⟨b7, o7, p7, c7, p8, c8, p9, c9, hq7, hb7, hr7, hc7⟩ := recs_facts RW5.out (New.refl w5) HI.out
            have er : T.recs[i]'HI2.out = want[i]'HI.out := by have := W5.out.recs; subst this; rfl
            obtain ⟨r, hr⟩ : ∃ r, r = want[i]'HI.out := ⟨_, rfl⟩
            rw [er, ← hr] at hin ⊢
            rw [← hr] at hr7 hc7
            clear hr er
            subst hq7
            obtain ⟨⟨⟨p4, c4, rfl, -⟩, -⟩, ⟨⟨p5, c5, rfl, -⟩, -⟩, ⟨⟨p6, c6, rfl, -⟩, -⟩⟩ := id hin
            have IN := hid hin.at
            have N6 := hid n6
            have R7 := hid hr7
            have HCC := hid hc7
            have W9 := hid (W5.out.newer (n6.alloc #[.int .i64 r.kind, .int .i64 r.unit, .int .i64 r.page, .int .i64 r.at_, .slice p4 r.before.size c4, .slice p5 r.after.size c5, .int .i64 r.back, .int .i64 r.next, .string r.text, .slice p6 r.units.length c6] 25))
            clear hin n6 hr7 hc7
            go_upto_region 39 with fail
            have X : ∀ (P : After (w6.alloc (.cells #[.int .i64 r.kind, .int .i64 r.unit, .int .i64 r.page, .int .i64 r.at_, .slice p4 r.before.size c4, .slice p5 r.after.size c5, .int .i64 r.back, .int .i64 r.next, .string r.text, .slice p6 r.units.length c6] 25))), New w5 P.w := fun P => (N6.out.alloc _ _).trans P.new
            have m17 := fun (P : After (w6.alloc (.cells #[.int .i64 r.kind, .int .i64 r.unit, .int .i64 r.page, .int .i64 r.at_, .slice p4 r.before.size c4, .slice p5 r.after.size c5, .int .i64 r.back, .int .i64 r.next, .string r.text, .slice p6 r.units.length c6] 25))) => P.new.made.1
            have y := fun (P : After (w6.alloc (.cells #[.int .i64 r.kind, .int .i64 r.unit, .int .i64 r.page, .int .i64 r.at_, .slice p4 r.before.size c4, .slice p5 r.after.size c5, .int .i64 r.back, .int .i64 r.next, .string r.text, .slice p6 r.units.length c6] 25))) => rec_ten (HCC.out _ (X P))
            have y0 := fun P => (y P).1
            have y1 := fun P => (y P).2.1
            have y2 := fun P => (y P).2.2.1
            have y3 := fun P => (y P).2.2.2.1
            have y4 := fun P => (y P).2.2.2.2.1
            have y5 := fun P => (y P).2.2.2.2.2.1
            have y6 := fun P => (y P).2.2.2.2.2.2.1
            have y7 := fun P => (y P).2.2.2.2.2.2.2.1
            have y8 := fun P => (y P).2.2.2.2.2.2.2.2.1
            have y9 := fun P => (y P).2.2.2.2.2.2.2.2.2
            have hlti : i < want.length := HI.out
            clear y
            have HX := hid X
            clear X
            refine wp_region_new (by kernel_rfl) (by kernel_rfl) ?_
            repeat (go_big_quiet_step (with_reducible refine calls_after (refSame_is true r r _ _ _ _ _ _ _ (by simp) (IN.out.new (((New.refl w6).alloc _ _).trans (After.new _))) (R7.out.new (HX.out _)))))
            refine wpQuiet_nil ?_
            rintro _ ⟨P, rfl⟩
            have W9 := hid (W9.out.newer P.new)
            have ROW9 := hid (own_old HROW4.out (n5'.out.trans ((N6.out.alloc _ _).trans P.new)))
            clear m17 y0 y1 y2 y3 y4 y5 y6 y7 y8 y9 hlti q1 q2
            go_wp2_with fail
            refine (open_any w b ow A (100 * l.length) _ W9.out.again W9.out.calm (by have := A1.out; omega)).mono ?_
            rintro e wa ⟨owa, tba, ota, rfl, hLa, hta, -, -, -⟩
            have HO := W9.out.has.opened
            rw [HO.1, HO.2, W9.out.recs] at hLa
            have La := hid hLa
            have ROWa := hid (own_turn ROW9.out hta (fun k hk hs => row_not_logs W9.out.log ROW9.out W9.out.ne k hk (Or.inl hs)))
            clear hLa hta HO
            go_wp2_with fail
            refine (records_any tba ota b ⟨want, want.length, false⟩ _ La.out.tape (by rw [← W9.out.recs]; exact HV.out) (by have := WL.out; simp only; omega)).mono ?_
            rintro e wb ⟨vb, yb, rfl, hrb, hcb, nb⟩
            have Rb := hid (Recs.owned hrb hcb)
            have Lb := hid (La.out.newer nb)
            have RWb := hid (Recs.row (own_old ROWa.out nb) (HCEL.out.imp fun r _ _ _ hr => hr.new Lb.out.new))
            clear hrb hcb nb
            go_wp2_with fail
            refine (sameRecords_any _ _ want want _ Rb.out RWb.out).mono ?_
            rintro e wd ⟨rfl, nd⟩
            rw [show decide (want = want) = true by simp]
            have Ld := hid (Lb.out.newer nd)
            clear nd Rb RWb
            go_wp2_with fail
            refine (forced_any tba ota b ⟨want, want.length, false⟩ _ Ld.out.tape).mono ?_
            rintro e w' ⟨rfl, rfl⟩
            go_wp2_with fail
            refine (first_any _).mono ?_
            rintro e wz ⟨rfl, nz⟩
            go_wp2
            go_ret
            exact ⟨rfl, Ld.out.new.trans nz⟩
          · have hn2 : n < 1 ∨ (T.recs.length : Int) < n := by rw [W5.out.recs]; omega
            have HN2 := hid hn2
            by_cases hn1 : n < 1
            · have q1 : decide (n < 1) = true := by simpa using hn1
              clear hn hn1 hn2
              go_wp2_with fail
              refine (record_out tb ot b T n _ W5.out.log.tape HN2.out).mono ?_
              rintro e w6 ⟨bv, av, uv, rfl, hin, n6⟩
              obtain ⟨⟨⟨p4, c4, rfl, -⟩, -⟩, ⟨⟨p5, c5, rfl, -⟩, -⟩, ⟨⟨p6, c6, rfl, -⟩, -⟩⟩ := id hin
              have HC8 : recCells rec0 (.slice p4 rec0.before.size c4) (.slice p5 rec0.after.size c5) (.slice p6 rec0.units.length c6) = #[.int .i64 0, .int .i64 0, .int .i64 0, .int .i64 0, .slice p4 rec0.before.size c4, .slice p5 rec0.after.size c5, .int .i64 0, .int .i64 0, .string ByteArray.empty, .slice p6 rec0.units.length c6] := rfl
              rw [HC8]
              clear HC8
              have IN := hid hin.at
              have N6 := hid n6
              clear hin n6
              go_wp2_with fail
              refine (refSame_is true rec0 rec0 _ _ _ (.slice none 0 0) (.slice none 0 0) (.slice none 0 0) _ (by simp) (IN.out.new ((New.refl w6).alloc _ _)) ⟨bytes_none _, bytes_none _, (OpensIn.nil _).1⟩).mono ?_
              rintro e w7 ⟨rfl, n7⟩
              have W9 := hid (W5.out.newer ((N6.out.alloc _ _).trans n7))
              have ROW9 := hid (own_old HROW4.out (n5'.out.trans ((N6.out.alloc _ _).trans n7)))
              clear n7
              go_wp2_with fail
              refine (open_any w b ow A (100 * l.length) _ W9.out.again W9.out.calm (by have := A1.out; omega)).mono ?_
              rintro e wa ⟨owa, tba, ota, rfl, hLa, hta, -, -, -⟩
              have HO := W9.out.has.opened
              rw [HO.1, HO.2, W9.out.recs] at hLa
              have La := hid hLa
              have ROWa := hid (own_turn ROW9.out hta (fun k hk hs => row_not_logs W9.out.log ROW9.out W9.out.ne k hk (Or.inl hs)))
              clear hLa hta HO
              go_wp2_with fail
              refine (records_any tba ota b ⟨want, want.length, false⟩ _ La.out.tape (by rw [← W9.out.recs]; exact HV.out) (by have := WL.out; simp only; omega)).mono ?_
              rintro e wb ⟨vb, yb, rfl, hrb, hcb, nb⟩
              have Rb := hid (Recs.owned hrb hcb)
              have Lb := hid (La.out.newer nb)
              have RWb := hid (Recs.row (own_old ROWa.out nb) (HCEL.out.imp fun r _ _ _ hr => hr.new Lb.out.new))
              clear hrb hcb nb
              go_wp2_with fail
              refine (sameRecords_any _ _ want want _ Rb.out RWb.out).mono ?_
              rintro e wd ⟨rfl, nd⟩
              rw [show decide (want = want) = true by simp]
              have Ld := hid (Lb.out.newer nd)
              clear nd Rb RWb
              go_wp2_with fail
              refine (forced_any tba ota b ⟨want, want.length, false⟩ _ Ld.out.tape).mono ?_
              rintro e w' ⟨rfl, rfl⟩
              go_wp2_with fail
              refine (first_any _).mono ?_
              rintro e wz ⟨rfl, nz⟩
              go_wp2
              go_ret
              exact ⟨rfl, Ld.out.new.trans nz⟩
            · have q1 : decide (n < 1) = false := by simpa using hn1
              have q2 : decide ((want.length : Int) < n) = true := by simp; omega
              clear hn hn1 hn2
              go_wp2_with fail
              refine (record_out tb ot b T n _ W5.out.log.tape HN2.out).mono ?_
              rintro e w6 ⟨bv, av, uv, rfl, hin, n6⟩
              obtain ⟨⟨⟨p4, c4, rfl, -⟩, -⟩, ⟨⟨p5, c5, rfl, -⟩, -⟩, ⟨⟨p6, c6, rfl, -⟩, -⟩⟩ := id hin
              have HC8 : recCells rec0 (.slice p4 rec0.before.size c4) (.slice p5 rec0.after.size c5) (.slice p6 rec0.units.length c6) = #[.int .i64 0, .int .i64 0, .int .i64 0, .int .i64 0, .slice p4 rec0.before.size c4, .slice p5 rec0.after.size c5, .int .i64 0, .int .i64 0, .string ByteArray.empty, .slice p6 rec0.units.length c6] := rfl
              rw [HC8]
              clear HC8
              have IN := hid hin.at
              have N6 := hid n6
              clear hin n6
              go_wp2_with fail
              refine (refSame_is true rec0 rec0 _ _ _ (.slice none 0 0) (.slice none 0 0) (.slice none 0 0) _ (by simp) (IN.out.new ((New.refl w6).alloc _ _)) ⟨bytes_none _, bytes_none _, (OpensIn.nil _).1⟩).mono ?_
              rintro e w7 ⟨rfl, n7⟩
              have W9 := hid (W5.out.newer ((N6.out.alloc _ _).trans n7))
              have ROW9 := hid (own_old HROW4.out (n5'.out.trans ((N6.out.alloc _ _).trans n7)))
              clear n7
              go_wp2_with fail
              refine (open_any w b ow A (100 * l.length) _ W9.out.again W9.out.calm (by have := A1.out; omega)).mono ?_
              rintro e wa ⟨owa, tba, ota, rfl, hLa, hta, -, -, -⟩
              have HO := W9.out.has.opened
              rw [HO.1, HO.2, W9.out.recs] at hLa
              have La := hid hLa
              have ROWa := hid (own_turn ROW9.out hta (fun k hk hs => row_not_logs W9.out.log ROW9.out W9.out.ne k hk (Or.inl hs)))
              clear hLa hta HO
              go_wp2_with fail
              refine (records_any tba ota b ⟨want, want.length, false⟩ _ La.out.tape (by rw [← W9.out.recs]; exact HV.out) (by have := WL.out; simp only; omega)).mono ?_
              rintro e wb ⟨vb, yb, rfl, hrb, hcb, nb⟩
              have Rb := hid (Recs.owned hrb hcb)
              have Lb := hid (La.out.newer nb)
              have RWb := hid (Recs.row (own_old ROWa.out nb) (HCEL.out.imp fun r _ _ _ hr => hr.new Lb.out.new))
              clear hrb hcb nb
              go_wp2_with fail
              refine (sameRecords_any _ _ want want _ Rb.out RWb.out).mono ?_
              rintro e wd ⟨rfl, nd⟩
              rw [show decide (want = want) = true by simp]
              have Ld := hid (Lb.out.newer nd)
              clear nd Rb RWb
              go_wp2_with fail
              refine (forced_any tba ota b ⟨want, want.length, false⟩ _ Ld.out.tape).mono ?_
              rintro e w' ⟨rfl, rfl⟩
              go_wp2_with fail
              refine (first_any _).mono ?_
              rintro e wz ⟨rfl, nz⟩
              go_wp2
              go_ret
              exact ⟨rfl, Ld.out.new.trans nz⟩

end Go.Proofs.Ytbclgklpcbajfaa
