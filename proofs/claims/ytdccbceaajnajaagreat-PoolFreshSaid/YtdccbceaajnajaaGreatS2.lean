/- The specification's pool in memory: words; IsPage, Reads, find, Force. The specification's pool: Force. -/
import Derived.Test.YtdccbceaajnajaaGreatR4
import Derived.Test.YtdccbceaajnajaaGreatD39
import Derived.Deep.RegionWith
import Derived.BigQuiet
namespace Go.Proofs.YtdccbceaajnajaaGreat
open Go.RowKit
set_option linter.unusedSimpArgs false
set_option linter.unusedVariables false

/-- The cells of the specification's frames. -/
def rfCells (f : AFrame) : List Value := [.int .i64 (f.page : Int), .int .i64 (f.stamp : Int), .string f.b, .bool f.dirty]
def rfVals (l : List (Nat × AFrame)) : List Value := l.flatMap fun p => rfCells p.2
theorem rfVals_length (l : List (Nat × AFrame)) : (rfVals l).length = l.length * 4 := by
  induction l with
  | nil => rfl
  | cons a l ih => simp only [rfVals, rfCells, List.flatMap_cons, List.length_append, List.length_cons, List.length_nil] at *; omega
theorem rfVals_append (l m : List (Nat × AFrame)) : rfVals (l ++ m) = rfVals l ++ rfVals m := by simp [rfVals]
theorem rfVals_get (l : List (Nat × AFrame)) (i : Nat) (h : i < l.length) : (rfVals l)[i * 4]? = some (.int .i64 ((l[i]).2.page : Int)) ∧ (rfVals l)[i * 4 + 1]? = some (.int .i64 ((l[i]).2.stamp : Int)) ∧ (rfVals l)[i * 4 + 2]? = some (.string (l[i]).2.b) ∧ (rfVals l)[i * 4 + 3]? = some (.bool (l[i]).2.dirty) := by
  induction l generalizing i with
  | nil => simp at h
  | cons a l ih =>
    cases i with
    | zero => simp [rfVals, rfCells]
    | succ i =>
      have := ih i (by simpa using h)
      have e : (i + 1) * 4 = i * 4 + 4 := by omega
      simp only [rfVals, rfCells, List.flatMap_cons, List.getElem_cons_succ] at *
      rw [e, show i * 4 + 4 + 1 = i * 4 + 1 + 4 by omega, show i * 4 + 4 + 2 = i * 4 + 2 + 4 by omega, show i * 4 + 4 + 3 = i * 4 + 3 + 4 by omega]
      simpa using this
def rpCells (b : Nat) (T : ATape) (P : APool) (v : Value) : Array Value := #[.pointer (some ⟨b, 0, none⟩), .int .i64 (T.recs.length : Int), .int .i64 (T.forced : Int), .int .i64 (P.size : Int), .bool T.late, v, .int .i64 (P.reads : Int)]
/-- The specification's pool lies at block rp, its frames at block of; its disk at block b. -/
structure RSys (w0 w : World) (b : Nat) (ow : Option Nat) (rp : Nat) (fo : Option Nat) (R : ADisk) (T : ATape) (P : APool) : Prop where
  disk : RefAt w b ow R
  pool : ∃ v, w.heap[rp]? = some (.cells (rpCells b T P v) 67 (0, 0)) ∧ v.ownBlock = fo ∧ w.ownsRow 0 104 4 v P.frames.length (rfVals P.frames)
  new : New w0 w
  bb : w0.heap.size ≤ b
  oo : ∀ k, ow = some k → w0.heap.size ≤ k
  rr : w0.heap.size ≤ rp
  ff : ∀ k, fo = some k → w0.heap.size ≤ k
/-- The blocks of the specification's disk and pool. -/
def refs (b : Nat) (ow : Option Nat) (rp : Nat) (fo : Option Nat) : Nat → Prop := fun k => its b ow k ∨ k = rp ∨ fo = some k
/-- The types of the specification's disk and pool. -/
def refT (t : TypeId) : Prop := t = 64 ∨ t = 143 ∨ t = 67 ∨ t = 104
theorem RSys.typed {w0 w : World} {b rp : Nat} {ow fo : Option Nat} {R : ADisk} {T : ATape} {P : APool} (S : RSys w0 w b ow rp fo R T P) {k : Nat} (h : refs b ow rp fo k) : ∃ c t fr, w.heap[k]? = some (Obj.cells c t fr) ∧ refT t := by
  rcases h with h | h | h
  · obtain ⟨c, t, e, ht⟩ := S.disk.typed h
    exact ⟨c, t, _, e, by rcases ht with rfl | rfl <;> simp [refT]⟩
  · subst h
    obtain ⟨v, e, _⟩ := S.pool
    exact ⟨_, _, _, e, by simp [refT]⟩
  · obtain ⟨v, _, e2, e3⟩ := S.pool
    obtain ⟨c, hc⟩ := own_base e3 (e2.trans h)
    exact ⟨c, _, _, hc, by simp [refT]⟩
theorem RSys.only {w0 w w' : World} {b rp : Nat} {ow fo : Option Nat} {R : ADisk} {T : ATape} {P : APool} (S : RSys w0 w b ow rp fo R T P) (h : Turn (refs b ow rp fo) w w') : Only refT w w' := Only.of_turn h fun _ hk => S.typed hk
theorem RSys.newer {w0 w w' : World} {b rp : Nat} {ow fo : Option Nat} {R : ADisk} {T : ATape} {P : APool} (S : RSys w0 w b ow rp fo R T P) (hn : New w w') : RSys w0 w' b ow rp fo R T P := by
  obtain ⟨v, e1, e2, e3⟩ := S.pool
  exact { S with disk := S.disk.new hn, pool := ⟨v, (Below.block hn _ (Array.getElem?_eq_some_iff.1 e1).1).trans e1, e2, own_old e3 hn⟩, new := S.new.trans hn }
/-- The disk moved; the pool stands. -/
theorem RSys.moved {w0 w w' : World} {b rp : Nat} {ow fo : Option Nat} {R R' : ADisk} {T : ATape} {P : APool} {v : Value} {e : Ending} (S : RSys w0 w b ow rp fo R T P) (hm : RefMoved b ow v R' w e w') :
    ∃ ow', e = .returned v ∧ RSys w0 w' b ow' rp fo R' T P ∧ Turn (refs b ow rp fo) w w' ∧ (∀ k, ow' = some k → ow = some k ∨ w.heap.size ≤ k) := by
  obtain ⟨he, ow', h1, h2, h3⟩ := hm
  obtain ⟨u, e1, e2, e3⟩ := S.pool
  have n1 : ¬ its b ow rp := fun hk => by
    obtain ⟨c, t, e', ht⟩ := S.disk.typed hk
    exact types_ne e1 e' (by rcases ht with rfl | rfl <;> decide)
  have n2 : ∀ k, fo = some k → ¬ its b ow k := fun k hf hk => by
    obtain ⟨c, t, e', ht⟩ := S.disk.typed hk
    obtain ⟨c2, hc2⟩ := own_base e3 (e2.trans hf)
    exact types_ne hc2 e' (by rcases ht with rfl | rfl <;> decide)
  refine ⟨ow', he, ⟨h1, ⟨u, ?_, e2, own_turn e3 h3 (fun k hk => n2 k (e2 ▸ hk))⟩, ?_, S.bb, fun k hk => ?_, S.rr, S.ff⟩, h3.mono fun _ _ h => .inl h, h2⟩
  · rw [h3.block rp (Array.getElem?_eq_some_iff.1 e1).1 n1]
    exact e1
  · refine S.new.turn h3 (fun k hk hs => ?_)
    rcases hs with rfl | hs
    · have := S.bb; omega
    · have := S.oo k hs; omega
  · rcases h2 k hk with h | h
    · exact S.oo k h
    · exact Nat.le_trans S.new.size h
/-- The pool's own cells are laid anew; its row of frames stands. -/
theorem RSys.cells {w0 w w' : World} {b rp : Nat} {ow fo : Option Nat} {R : ADisk} {T T' : ATape} {P P' : APool} (S : RSys w0 w b ow rp fo R T P) (ht : Turn (· = rp) w w') (hc : ∀ v, w.heap[rp]? = some (.cells (rpCells b T P v) 67 (0, 0)) → w'.heap[rp]? = some (.cells (rpCells b T' P' v) 67 (0, 0))) (hp : P'.frames = P.frames) :
    RSys w0 w' b ow rp fo R T' P' := by
  obtain ⟨v, e1, e2, e3⟩ := S.pool
  have n1 : ¬ rp = b := fun e => by
    obtain ⟨c, h⟩ := S.disk.base
    exact types_ne e1 (e ▸ h) (by decide)
  have n2 : ∀ k, ow = some k → ¬ k = rp := fun k hk e => by
    obtain ⟨c, h⟩ := S.disk.row hk
    exact types_ne (e ▸ h) e1 (by decide)
  have n3 : ∀ k, v.ownBlock = some k → ¬ k = rp := fun k hk e => by
    obtain ⟨c, h⟩ := own_base e3 hk
    exact types_ne (e ▸ h) e1 (by decide)
  exact { S with disk := S.disk.turn ht (fun e => n1 e.symm) n2, pool := ⟨v, hc v e1, e2, by rw [hp]; exact own_turn e3 ht n3⟩, new := S.new.turn ht (fun k hk e => by have := S.rr; omega) }

theorem refIsPage_any (n : Int) (w : World) : Calls Tryz.prog 66 #[.int .i64 n] w fun e w' => e = .returned (.bool (isP n)) ∧ w = w' := by
  by_cases h : 0 ≤ n
  · have q1 : decide (0 ≤ n) = true := by simpa using h
    by_cases h2 : n < 120
    · have q2 : decide (n < 120) = true := by simpa using h2
      have e : Hid (isP n = true) := hid (by unfold isP; rw [q1, q2]; rfl)
      go_enter Tryz.func66, Tryz.ntmps66
      go_wp2
      go_ret
      exact ⟨by rw [e.out]; rfl, rfl⟩
    · have q2 : decide (n < 120) = false := by simpa using h2
      have e : Hid (isP n = false) := hid (by unfold isP; rw [q2, Bool.and_false])
      go_enter Tryz.func66, Tryz.ntmps66
      go_wp2
      go_ret
      exact ⟨by rw [e.out]; rfl, rfl⟩
  · have q1 : decide (0 ≤ n) = false := by simpa using h
    have e : Hid (isP n = false) := hid (by unfold isP; rw [q1, Bool.false_and])
    go_enter Tryz.func66, Tryz.ntmps66
    go_wp2
    go_ret
    exact ⟨by rw [e.out]; rfl, rfl⟩
theorem rsys_open {w0 w : World} {b rp : Nat} {ow fo : Option Nat} {R : ADisk} {T : ATape} {P : APool} (S : RSys w0 w b ow rp fo R T P) :
    ∃ p c, (∀ o, w.cell? ⟨rp, o, none⟩ = (rpCells b T P (.slice p P.frames.length c))[o]?) ∧ (∀ o, w.frozen? ⟨rp, o, none⟩ = false) ∧ w.ownsRow 0 104 4 (.slice p P.frames.length c) P.frames.length (rfVals P.frames) ∧ (Value.slice p P.frames.length c).ownBlock = fo := by
  obtain ⟨v, e1, e2, e3⟩ := S.pool
  obtain ⟨p, c, rfl⟩ := own_len e3
  exact ⟨p, c, cells_of e1, frozen_of e1, e3, e2⟩
theorem refReads_any (w0 : World) (b : Nat) (ow : Option Nat) (rp : Nat) (fo : Option Nat) (R : ADisk) (T : ATape) (P : APool) (w : World) (S : RSys w0 w b ow rp fo R T P) : Calls Tryz.prog 53 #[.pointer (some ⟨rp, 0, none⟩)] w fun e w' => e = .returned (.int .i64 (P.reads : Int)) ∧ w = w' := by
  obtain ⟨p, c, hc, -, -, -⟩ := rsys_open S
  unfold rpCells at hc
  go_enter Tryz.func53, Tryz.ntmps53
  go_wp2
  go_ret
  exact ⟨rfl, rfl⟩
/-- Where the frame of a page is. -/
def findN (l : List (Nat × AFrame)) (n : Int) : Int := match l.findIdx? (fun p => decide ((p.2.page : Int) = n)) with
  | some i => (i : Int)
  | none => -1
theorem findN_at {l : List (Nat × AFrame)} {n : Int} {j : Nat} (hj : j < l.length) (hb : ∀ i, i < j → ∀ y, l[i]? = some y → (y.2.page : Int) ≠ n) (hp : ((l[j]).2.page : Int) = n) : findN l n = (j : Int) := by
  unfold findN
  have : l.findIdx? (fun p => decide ((p.2.page : Int) = n)) = some j := by
    rw [List.findIdx?_eq_some_iff_getElem]
    refine ⟨hj, by simpa using hp, fun i hi => ?_⟩
    have hi2 : i < l.length := by omega
    simpa using hb i hi _ (List.getElem?_eq_getElem hi2)
  rw [this]
theorem findN_no {l : List (Nat × AFrame)} {n : Int} (hb : ∀ i, i < l.length → ∀ y, l[i]? = some y → (y.2.page : Int) ≠ n) : findN l n = -1 := by
  unfold findN
  have : l.findIdx? (fun p => decide ((p.2.page : Int) = n)) = none := by
    rw [List.findIdx?_eq_none_iff]
    intro p hp
    obtain ⟨i, hi, e⟩ := List.getElem_of_mem hp
    simpa using hb i hi p (by rw [List.getElem?_eq_getElem hi, e])
  rw [this]

set_option maxHeartbeats 1600000 in
set_option maxRecDepth 100000 in
theorem refFind_any (w0 : World) (b : Nat) (ow : Option Nat) (rp : Nat) (fo : Option Nat) (R : ADisk) (T : ATape) (P : APool) (n : Int) (w : World) (S : RSys w0 w b ow rp fo R T P) (hl : P.frames.length ≤ 100000) : Calls Tryz.prog 70 #[.pointer (some ⟨rp, 0, none⟩), .int .i64 n] w fun e w' => e = .returned (.int .i64 (findN P.frames n)) ∧ w = w' := by
  obtain ⟨p, c, hc, hf, hown, -⟩ := rsys_open S
  unfold rpCells at hc
  have OWN := hid hown
  have HL := hid hl
  clear S hown hl hf
  go_enter Tryz.func70, Tryz.ntmps70
  go_wp2
  go_loopw [5] (fun i wr => ∃ j : Nat, j ≤ P.frames.length ∧ i = .int .i64 j ∧ w = wr ∧ Hid (∀ i, i < j → ∀ y, P.frames[i]? = some y → (y.2.page : Int) ≠ n)) (fun i _ => P.frames.length - (intOf i).toNat)
  case atStart => exact ⟨0, Nat.zero_le _, rfl, rfl, hid fun i hi => absurd hi (Nat.not_lt_zero _)⟩
  case round =>
    obtain ⟨j, hj, rfl, rfl, hb⟩ := hrel
    have q9 : P.frames.length ≤ 100000 := HL.out
    by_cases hlt : j < P.frames.length
    · obtain ⟨g, cap, e, _, hg⟩ := OWN.out.form (by omega)
      injection e with e1 e8 e9
      subst e1
      clear e8 e9
      have d0 := OWN.out.cellAt (j * 4) (by omega)
      rw [(rfVals_get P.frames j hlt).1] at d0
      have HFA : Hid (((P.frames[j]).2.page : Int) = n → findN P.frames n = (j : Int)) := hid fun h => findN_at hlt hb.out h
      have HNX : Hid (¬ ((P.frames[j]).2.page : Int) = n → ∀ i, i < j + 1 → ∀ y, P.frames[i]? = some y → (y.2.page : Int) ≠ n) := hid fun h i hi y hy => by
        by_cases e : i < j
        · exact hb.out i e y hy
        · obtain rfl : i = j := by omega
          rw [List.getElem?_eq_getElem hlt] at hy
          injection hy with hy
          rw [← hy]
          exact h
      clear hb
      generalize hx : P.frames[j] = x at *
      clear hx
      by_cases hpg : (x.2.page : Int) = n
      · have q0 : ((x.2.page : Int) == n) = true := by simpa using hpg
        have HR := hid (HFA.out hpg)
        clear hpg HFA HNX
        go_wp2
        go_ret
        exact ⟨by rw [HR.out]; rfl, rfl⟩
      · have q0 : ((x.2.page : Int) == n) = false := by simpa using hpg
        have HNN := hid (HNX.out hpg)
        clear hpg HNX HFA
        go_wp2
        go_roundw
        case rel => exact ⟨j + 1, by omega, by go_num, trivial, HNN⟩
        case measure => simp [intOf]; omega
    · obtain rfl : j = P.frames.length := by omega
      have HR := hid (findN_no hb.out)
      clear hb
      go_wp2
      go_ret
      exact ⟨by rw [HR.out]; rfl, rfl⟩
end Go.Proofs.YtdccbceaajnajaaGreat

namespace Go.Proofs.YtdccbceaajnajaaGreat
open Go.RowKit
set_option linter.unusedSimpArgs false
set_option linter.unusedVariables false

/-- Behind a call that moves the disk and the pool of the specification. -/
def RBack (w0 : World) (b : Nat) (ow : Option Nat) (rp : Nat) (fo : Option Nat) (v : Value) (R : ADisk) (T : ATape) (P : APool) (w : World) (e : Ending) (w' : World) : Prop :=
  ∃ ow', e = .returned v ∧ RSys w0 w' b ow' rp fo R T P ∧ Turn (refs b ow rp fo) w w' ∧ (∀ k, ow' = some k → ow = some k ∨ w.heap.size ≤ k)
/-- Two moves are one. -/
theorem Turn.refs {w w1 w2 : World} {b rp : Nat} {ow ow1 fo : Option Nat} (h1 : Turn (refs b ow rp fo) w w1) (ho : ∀ k, ow1 = some k → ow = some k ∨ w.heap.size ≤ k) (h2 : Turn (_root_.Go.Proofs.YtdccbceaajnajaaGreat.refs b ow1 rp fo) w1 w2) : Turn (_root_.Go.Proofs.YtdccbceaajnajaaGreat.refs b ow rp fo) w w2 := by
  have h : Turn (fun k => _root_.Go.Proofs.YtdccbceaajnajaaGreat.refs b ow rp fo k ∨ w.heap.size ≤ k) w w2 := (h1.mono fun _ _ h => .inl h).trans (h2.mono fun k _ h => by
    rcases h with (h | h) | h | h
    · exact .inl (.inl (.inl h))
    · rcases ho k h with h | h
      · exact .inl (.inl (.inr h))
      · exact .inr h
    · exact .inl (.inr (.inl h))
    · exact .inl (.inr (.inr h)))
  exact h.mono fun k hk h => by
    rcases h with h | h
    · exact h
    · omega
theorem refs_lt {w0 w : World} {b rp : Nat} {ow fo : Option Nat} {R : ADisk} {T : ATape} {P : APool} (S : RSys w0 w b ow rp fo R T P) {k : Nat} (h : refs b ow rp fo k) : k < w.heap.size := by
  obtain ⟨c, t, fr, e, _⟩ := S.typed h
  exact (Array.getElem?_eq_some_iff.1 e).1

set_option maxHeartbeats 1600000 in
set_option maxRecDepth 100000 in
theorem refForce_any (w0 : World) (b : Nat) (ow : Option Nat) (rp : Nat) (fo : Option Nat) (R : ADisk) (T : ATape) (P : APool) (m : Nat) (w : World) (S : RSys w0 w b ow rp fo R T P) (hd : R.down = false) (L : Lim R m) (hm : m ≤ 100000) :
    Calls Tryz.prog 34 #[.pointer (some ⟨rp, 0, none⟩)] w (RBack w0 b ow rp fo (.int .i64 (forceE R T)) (forceA R T) (forceT R T) P w) := by
  obtain ⟨p, c, hc, hf, -, -⟩ := rsys_open S
  unfold rpCells at hc
  have HS := hid S
  have HL := hid L
  have hdk := S.disk
  clear S L
  cases hla : T.late with
  | false =>
    rw [hla] at hc
    have e1 : forceE R T = 0 := by simp [forceE, hla]
    have e2 : forceA R T = R := by simp [forceA, hla]
    have e3 : forceT R T = { T with forced := T.recs.length, late := false } := by unfold forceT; rw [if_pos e1]
    rw [e1, e2, e3]
    clear e1 e2 e3 hla
    go_enter Tryz.func34, Tryz.ntmps34
    go_wp2_with fail
    refine (refDown_any b ow R _ hdk).mono ?_
    rintro e w' ⟨rfl, rfl⟩
    rw [hd]
    go_wp2
    go_ret
    have ht := (turn_set w rp 4 (.bool false)).trans (turn_set _ rp 2 (.int .i64 (T.recs.length : Int)))
    refine ⟨ow, rfl, HS.out.cells ht (fun v hv => ?_) rfl, ht.mono fun k _ h => .inr (.inl h), fun k h => .inl h⟩
    exact heap_setCell_same _ rp 2 _ 67 _ (heap_setCell_same w rp 4 _ 67 _ hv)
  | true =>
    rw [hla] at hc
    have HLA := hid hla
    clear hla
    go_enter Tryz.func34, Tryz.ntmps34
    go_wp2_with fail
    refine (refDown_any b ow R _ hdk).mono ?_
    rintro e w' ⟨rfl, rfl⟩
    rw [hd]
    go_wp2_with fail
    refine (refFlush_any b ow R _ hdk (by have := HL.out.falls; omega) (by have := HL.out.acts; omega) (by have := HL.out.waits; omega)).mono ?_
    intro e w1 hm1
    obtain ⟨ow1, rfl, hS1, ht1, ho1⟩ := HS.out.moved hm1
    obtain ⟨p1, c1, hc1, hf1, -, -⟩ := rsys_open hS1
    unfold rpCells at hc1
    rw [HLA.out] at hc1
    have HS1 := hid hS1
    have HT1 := hid ht1
    have HO1 := hid ho1
    clear hm1 hS1 ht1 ho1 hc hf hdk hd
    by_cases hfe : actE R = 0
    · have e1 : forceE R T = 0 := by simp [forceE, HLA.out, hfe]
      have e2 : forceA R T = flushA R := by simp [forceA, HLA.out]
      have e3 : forceT R T = { T with forced := T.recs.length, late := false } := by unfold forceT; rw [if_pos e1]
      have E1 := hid e1
      have E2 := hid e2
      have E3 := hid e3
      rw [hfe]
      clear e1 e2 e3 hfe
      go_wp2
      go_ret
      rw [E1.out, E2.out, E3.out]
      have ht := (turn_set w1 rp 4 (.bool false)).trans (turn_set _ rp 2 (.int .i64 (T.recs.length : Int)))
      refine ⟨ow1, rfl, HS1.out.cells ht (fun v hv => ?_) rfl, HT1.out.trans (ht.mono fun k _ h => .inr (.inl h)), HO1.out⟩
      exact heap_setCell_same _ rp 2 _ 67 _ (heap_setCell_same w1 rp 4 _ 67 _ hv)
    · have q0 : (actE R == 0) = false := by simpa using hfe
      have q1 : (actE R != 0) = true := by simpa using hfe
      have e1 : forceE R T = actE R := by simp [forceE, HLA.out]
      have e2 : forceA R T = flushA R := by simp [forceA, HLA.out]
      have e3 : forceT R T = T := by unfold forceT; rw [e1, if_neg hfe]
      have E1 := hid e1
      have E2 := hid e2
      have E3 := hid e3
      clear e1 e2 e3 hfe
      go_wp2
      go_ret
      rw [E1.out, E2.out, E3.out]
      exact ⟨ow1, rfl, HS1.out, HT1.out, HO1.out⟩
end Go.Proofs.YtdccbceaajnajaaGreat
