/- The world of records in memory: words, and how each part stands while others turn. -/
import Derived.Test.YtmchbciofdokfaaW1
import Derived.Test.YtmchbciofdokfaaM1
namespace Go.Proofs.Ytmchbciofdokfaa
open Go.RowKit
open Go.ChangeMaps (setBlock)
set_option linter.unusedSimpArgs false
set_option linter.unusedVariables false

theorem own_len {w : World} {base : Nat} {e : TypeId} {size : Nat} {v : Value} {n : Nat} {xs : List Value} (h : w.ownsRow base e size v n xs) : ∃ A c, v = .slice A n c := by
  rcases h.2 with ⟨rfl, rfl⟩ | ⟨g, cap, cur, rfl, _⟩
  · exact ⟨_, _, rfl⟩
  · exact ⟨_, _, rfl⟩
theorem cells_of {w : World} {k : Nat} {c : Array Value} {t : TypeId} {f : Nat × Nat} (h : w.heap[k]? = some (.cells c t f)) : ∀ o, w.cell? ⟨k, o, none⟩ = c[o]? := by
  intro o
  simp only [World.cell?, h]; rfl
theorem frozen_of {w : World} {k : Nat} {c : Array Value} {t : TypeId} (h : w.heap[k]? = some (.cells c t (0, 0))) : ∀ o, w.frozen? ⟨k, o, none⟩ = false := by
  intro o
  simp only [World.frozen?, h]; simp
theorem New.turn {S : Nat → Prop} {w a a' : World} (h : New w a) (ht : Turn S a a') (hS : ∀ k, k < w.heap.size → ¬ S k) : New w a' :=
  ⟨ht.os.trans h.os, ht.tape.trans h.tape, ht.output.trans h.output, Nat.le_trans h.size ht.size, fun k hk => (ht.block k (Nat.lt_of_lt_of_le hk h.size) (hS k hk)).trans (h.block k hk)⟩
theorem turn_cell (w : World) (x o : Nat) (u : Value) : Turn (· = x) w (w.setCell ⟨x, o, none⟩ u) := Turn.setCell (S := (· = x)) (p := ⟨x, o, none⟩) (Turn.refl _ w) rfl u
theorem kind_cells {w : World} {k : Nat} {c c' : Array Value} {t t' : TypeId} {fr fr' : Nat × Nat} (h : w.heap[k]? = some (.cells c t fr)) (h' : w.heap[k]? = some (.cells c' t' fr')) : c = c' ∧ t = t' := by
  rw [h] at h'
  injection h' with h'
  injection h' with h1 h2 _
  exact ⟨h1, h2⟩
theorem own_cells {w : World} {base : Nat} {e : TypeId} {sz : Nat} {v : Value} {n : Nat} {xs : List Value} (h : w.ownsRow base e sz v n xs) {k : Nat} (hk : v.ownBlock = some k) : ∃ c, w.heap[k]? = some (.cells c e (0, 0)) ∧ base ≤ k := by
  rcases h.2 with ⟨e, _⟩ | ⟨g, cap, cur, e, hg, hh, r⟩
  · rw [e] at hk
    simp [Value.ownBlock] at hk
  · rw [e] at hk
    simp only [Value.ownBlock, Option.some.injEq] at hk
    subst hk
    exact ⟨_, hh, hg⟩
theorem imap_not {w : World} {b : Nat} {l : List (Int × Value)} (h : IMap w b l) : ∀ c t fr, w.heap[b]? ≠ some (.cells c t fr) := fun c t fr e => by
  obtain ⟨es, clock, hb, _⟩ := h
  rw [hb] at e
  cases e
theorem imap_turn {X : Nat → Prop} {w w' : World} {b : Nat} {l : List (Int × Value)} (h : IMap w b l) (ht : Turn X w w') (hX : ¬ X b) : IMap w' b l := h.keep (ht.block b h.lt hX)
theorem block_turn {X : Nat → Prop} {w w' : World} {k : Nat} {o : Obj} (h : w.heap[k]? = some o) (ht : Turn X w w') (hX : ¬ X k) : w'.heap[k]? = some o := (ht.block k (Array.getElem?_eq_some_iff.1 h).1 hX).trans h
theorem set_turn (w : World) (b : Nat) (o : Obj) : Turn (· = b) w (setBlock w b o) := by
  obtain ⟨h1, h2, h3, h4, h5⟩ := setBlock_turn w b o
  exact ⟨h1, h2, h3, Nat.le_of_eq h4.symm, fun k hk hn => h5 k hn⟩

/-! ## Pages -/
structure PagesAt (w : World) (pg : Nat) (lp : List (Int × Nat)) (f : Nat → ByteArray) : Prop where
  map : IMap w pg (lp.map fun p => (p.1, .slice (some ⟨p.2, 0, none⟩) 128 128))
  page : ∀ p ∈ lp, 0 ≤ p.1 ∧ w.heap[p.2]? = some (.cells (byteVals (f p.1.toNat)).toArray 5 (0, 0))
  none : ∀ n : Nat, (∀ p ∈ lp, p.1 ≠ (n : Int)) → f n = zeroPage
  nodup : (lp.map (·.2)).Nodup
theorem PagesAt.off {X : Nat → Prop} {w w' : World} {pg : Nat} {lp : List (Int × Nat)} {f : Nat → ByteArray} (h : PagesAt w pg lp f) (ht : Turn X w w') (hX : ∀ k, X k → (∀ c t fr, w.heap[k]? = some (.cells c t fr) → t ≠ 5) ∧ k ≠ pg) : PagesAt w' pg lp f :=
  ⟨imap_turn h.map ht (fun e => (hX _ e).2 rfl), fun p hp => ⟨(h.page p hp).1, block_turn (h.page p hp).2 ht (fun e => (hX _ e).1 _ _ _ (h.page p hp).2 rfl)⟩, h.none, h.nodup⟩
/-! ## Stamps -/
def stampL (ls : List (Int × Int)) (n : Nat) : Int := ((ls.find? fun p => p.1 == (n : Int)).map (·.2)).getD 0
structure StampsAt (w : World) (sm : Nat) (ls : List (Int × Int)) (f : Nat → Nat) : Prop where
  map : IMap w sm (ls.map fun p => (p.1, .int .i64 p.2))
  stamp : ∀ n, stampL ls n = (f n : Int)
theorem StampsAt.off {X : Nat → Prop} {w w' : World} {sm : Nat} {ls : List (Int × Int)} {f : Nat → Nat} (h : StampsAt w sm ls f) (ht : Turn X w w') (hX : ∀ k, X k → k ≠ sm) : StampsAt w' sm ls f :=
  ⟨imap_turn h.map ht (fun e => hX _ e rfl), h.stamp⟩
/-! ## Units -/
abbrev unitCells (u : AU) (v : Value) : Array Value := #[.int .i64 u.st, v, .string u.text, .bool u.seen]
def natVals (l : List Nat) : List Value := l.map fun k : Nat => .int .i64 k
structure UnitsAt (w : World) (un : Nat) (lu : List (Int × Nat × Value)) (f : Int → AU) : Prop where
  map : IMap w un (lu.map fun x => (x.1, .pointer (some ⟨x.2.1, 0, none⟩)))
  unit : ∀ x ∈ lu, w.heap[x.2.1]? = some (.cells (unitCells (f x.1) x.2.2) 66 (0, 0)) ∧ w.ownsRow 0 3 1 x.2.2 (f x.1).left.length (natVals (f x.1).left)
  none : ∀ n, (∀ x ∈ lu, x.1 ≠ n) → f n = au0
  nodup : (lu.map (·.2.1)).Nodup
  lefts : ∀ x ∈ lu, ∀ y ∈ lu, x.1 ≠ y.1 → ∀ k, x.2.2.ownBlock = some k → y.2.2.ownBlock ≠ some k
/-- The rows of the units' changes. -/
def leftsOf (lu : List (Int × Nat × Value)) : Nat → Prop := fun k => ∃ x ∈ lu, x.2.2.ownBlock = some k
theorem UnitsAt.off {X : Nat → Prop} {w w' : World} {un : Nat} {lu : List (Int × Nat × Value)} {f : Int → AU} (h : UnitsAt w un lu f) (ht : Turn X w w') (hX : ∀ k, X k → (∀ c t fr, w.heap[k]? = some (.cells c t fr) → t ≠ 66) ∧ k ≠ un ∧ ¬ leftsOf lu k) : UnitsAt w' un lu f :=
  ⟨imap_turn h.map ht (fun e => (hX _ e).2.1 rfl), fun x hx => ⟨block_turn (h.unit x hx).1 ht (fun e => (hX _ e).1 _ _ _ (h.unit x hx).1 rfl), own_turn (h.unit x hx).2 ht (fun k hk e => (hX _ e).2.2 ⟨x, hx, hk⟩)⟩, h.none, h.nodup, h.lefts⟩
theorem UnitsAt.keys {w : World} {un : Nat} {lu : List (Int × Nat × Value)} {f : Int → AU} (h : UnitsAt w un lu f) : (lu.map (·.1)).Nodup := by
  have := h.map.nodup
  rw [List.map_map] at this
  exact this
/-! ## The whole -/
structure WSh where
  pg : Nat
  sm : Nat
  un : Nat
  rv : Value
  wv : Value
  lp : List (Int × Nat)
  ls : List (Int × Int)
  lu : List (Int × Nat × Value)
structure WorldAt (w0 w : World) (wb : Nat) (S : WSh) (W : PW) : Prop where
  new : New w0 w
  base : w.heap[wb]? = some (.cells #[S.rv, .map (some S.pg), .map (some S.sm), .map (some S.un), S.wv] 64 (0, 0))
  recs : ∃ xs, w.ownsRow 0 36 10 S.rv W.recs.length xs ∧ RecCells (RecAt w0) W.recs xs
  wins : w.ownsRow 0 3 1 S.wv W.wins.length (W.wins.map (Value.int .i64))
  pages : PagesAt w S.pg S.lp W.page
  stamps : StampsAt w S.sm S.ls W.stamp
  units : UnitsAt w S.un S.lu W.unit
  wl : ∀ k, S.wv.ownBlock = some k → ¬ leftsOf S.lu k
  maps : S.pg ≠ S.sm ∧ S.pg ≠ S.un ∧ S.sm ≠ S.un
  fb : w0.heap.size ≤ wb ∧ w0.heap.size ≤ S.pg ∧ w0.heap.size ≤ S.sm ∧ w0.heap.size ≤ S.un
  fo : ∀ k, S.rv.ownBlock = some k ∨ S.wv.ownBlock = some k ∨ leftsOf S.lu k → w0.heap.size ≤ k
  fp : ∀ p ∈ S.lp, w0.heap.size ≤ p.2
  fu : ∀ x ∈ S.lu, w0.heap.size ≤ x.2.1
variable {w0 w w' : World} {wb : Nat} {S : WSh} {W : PW}
/-- What lies elsewhere has turned. -/
theorem WorldAt.off {X : Nat → Prop} (h : WorldAt w0 w wb S W) (ht : Turn X w w') (hX : ∀ k, X k → w0.heap.size ≤ k ∧ (∀ c t fr, w.heap[k]? = some (.cells c t fr) → t ≠ 64 ∧ t ≠ 36 ∧ t ≠ 5 ∧ t ≠ 66 ∧ t ≠ 3) ∧ k ≠ S.pg ∧ k ≠ S.sm ∧ k ≠ S.un) : WorldAt w0 w' wb S W := by
  obtain ⟨xs, hr1, hr2⟩ := h.recs
  refine { h with new := New.turn h.new ht (fun k hk e => ?_), base := block_turn h.base ht (fun e => ((hX _ e).2.1 _ _ _ h.base).1 rfl), recs := ⟨xs, own_turn hr1 ht (fun k hk e => ?_), hr2⟩, wins := own_turn h.wins ht (fun k hk e => ?_), pages := h.pages.off ht (fun k hk => ⟨fun c t fr e => ((hX k hk).2.1 c t fr e).2.2.1, (hX k hk).2.2.1⟩), stamps := h.stamps.off ht (fun k hk => (hX k hk).2.2.2.1), units := h.units.off ht (fun k hk => ⟨fun c t fr e => ((hX k hk).2.1 c t fr e).2.2.2.1, (hX k hk).2.2.2.2, fun hl => ?_⟩) }
  · have := (hX k e).1
    omega
  · obtain ⟨c, hc, _⟩ := own_cells hr1 hk
    exact ((hX k e).2.1 _ _ _ hc).2.1 rfl
  · obtain ⟨c, hc, _⟩ := own_cells h.wins hk
    exact ((hX k e).2.1 _ _ _ hc).2.2.2.2 rfl
  · obtain ⟨x, hx, hk2⟩ := hl
    obtain ⟨c, hc, _⟩ := own_cells (h.units.unit x hx).2 hk2
    exact ((hX k hk).2.1 _ _ _ hc).2.2.2.2 rfl
theorem WorldAt.newer (h : WorldAt w0 w wb S W) (hn : New w w') : WorldAt w0 w' wb S W :=
  h.off (X := fun _ => False) (Turn.of_new hn) (fun k hk => hk.elim)
/-- The cells of the world. -/
theorem WorldAt.cells (h : WorldAt w0 w wb S W) : w.cell? ⟨wb, 0, none⟩ = some S.rv ∧ w.cell? ⟨wb, 1, none⟩ = some (.map (some S.pg)) ∧ w.cell? ⟨wb, 2, none⟩ = some (.map (some S.sm)) ∧ w.cell? ⟨wb, 3, none⟩ = some (.map (some S.un)) ∧ w.cell? ⟨wb, 4, none⟩ = some S.wv :=
  ⟨cells_of h.base 0, cells_of h.base 1, cells_of h.base 2, cells_of h.base 3, cells_of h.base 4⟩
theorem WorldAt.frozen (h : WorldAt w0 w wb S W) : ∀ o, w.frozen? ⟨wb, o, none⟩ = false := frozen_of h.base
theorem WorldAt.rows (h : WorldAt w0 w wb S W) : ∃ p c, S.rv = .slice p W.recs.length c ∧ ∃ q d, S.wv = .slice q W.wins.length d := by
  obtain ⟨xs, hr1, hr2⟩ := h.recs
  obtain ⟨p, c, e⟩ := own_len hr1
  obtain ⟨q, d, e2⟩ := own_len h.wins
  exact ⟨p, c, e, q, d, e2⟩
/-- A unit in the map, or none. -/
theorem look_unit (lu : List (Int × Nat × Value)) (hn : (lu.map (·.1)).Nodup) (n : Int) : (look (lu.map fun x => (x.1, Value.pointer (some ⟨x.2.1, 0, none⟩))) n = none ∧ ∀ x ∈ lu, x.1 ≠ n) ∨ ∃ x ∈ lu, x.1 = n ∧ look (lu.map fun x => (x.1, Value.pointer (some ⟨x.2.1, 0, none⟩))) n = some (.pointer (some ⟨x.2.1, 0, none⟩)) := by
  cases h : look (lu.map fun x => (x.1, Value.pointer (some ⟨x.2.1, 0, none⟩))) n with
  | none =>
    left
    refine ⟨rfl, fun x hx e => look_none.1 h _ (List.mem_map_of_mem hx) e⟩
  | some v =>
    right
    have := look_mem h
    obtain ⟨x, hx, e⟩ := List.mem_map.1 this
    injection e with e1 e2
    exact ⟨x, hx, e1, by rw [e2]⟩
theorem look_page (lp : List (Int × Nat)) (n : Int) : (look (lp.map fun p => (p.1, Value.slice (some ⟨p.2, 0, none⟩) 128 128)) n = none ∧ ∀ p ∈ lp, p.1 ≠ n) ∨ ∃ p ∈ lp, p.1 = n ∧ look (lp.map fun p => (p.1, Value.slice (some ⟨p.2, 0, none⟩) 128 128)) n = some (.slice (some ⟨p.2, 0, none⟩) 128 128) := by
  cases h : look (lp.map fun p => (p.1, Value.slice (some ⟨p.2, 0, none⟩) 128 128)) n with
  | none =>
    left
    refine ⟨rfl, fun x hx e => look_none.1 h _ (List.mem_map_of_mem hx) e⟩
  | some v =>
    right
    have := look_mem h
    obtain ⟨x, hx, e⟩ := List.mem_map.1 this
    injection e with e1 e2
    exact ⟨x, hx, e1, by rw [e2]⟩
end Go.Proofs.Ytmchbciofdokfaa
