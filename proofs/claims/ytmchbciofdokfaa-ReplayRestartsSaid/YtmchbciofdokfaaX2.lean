/- The specification's world of records in memory: words, and how each part stands while others turn. The specification's world: find returns the unit of a number. progenyref06.SameOpens, meets: what they return. Lists of opens in memory: a part of one, an append to a full one; an open put in between, in plain words. -/
import Derived.Test.YtmchbciofdokfaaW13L
import Derived.Test.YtmchbciofdokfaaW5
import Derived.Test.YtmchbciofdokfaaA2
import Derived.ArgAppend
namespace Go.Proofs.Ytmchbciofdokfaa
open Go.RowKit
set_option linter.unusedSimpArgs false
set_option linter.unusedVariables false

theorem kind_ne {w : World} {k l : Nat} {c c' : Array Value} {t t' : TypeId} {fr fr' : Nat × Nat} (h : w.heap[k]? = some (.cells c t fr)) (h' : w.heap[l]? = some (.cells c' t' fr')) (hne : t ≠ t') : k ≠ l := fun e => by
  subst e
  exact hne (kind_cells h h').2
/-- Where the parts of the specification's world lie. -/
structure RSh where
  f : Nat → Value
  rv : Value
  uv : Value
  lu : List (Int × Nat × Value)
abbrev runitCells (n : Int) (u : AU) (v : Value) : Array Value := #[.int .i64 n, .int .i64 u.st, v, .string u.text]
def ptrsOf (lu : List (Int × Nat × Value)) : List Value := lu.map fun x => .pointer (some ⟨x.2.1, 0, none⟩)
structure RUnits (w : World) (uv : Value) (lu : List (Int × Nat × Value)) (f : Int → AU) : Prop where
  row : w.ownsRow 0 85 1 uv lu.length (ptrsOf lu)
  unit : ∀ x ∈ lu, w.heap[x.2.1]? = some (.cells (runitCells x.1 (f x.1) x.2.2) 88 (0, 0)) ∧ w.ownsRow 0 3 1 x.2.2 (f x.1).left.length (natVals (f x.1).left)
  none : ∀ n, (∀ x ∈ lu, x.1 ≠ n) → f n = au0
  seen : ∀ x ∈ lu, (f x.1).seen = true
  keys : (lu.map (·.1)).Nodup
  nodup : (lu.map (·.2.1)).Nodup
  lefts : ∀ x ∈ lu, ∀ y ∈ lu, x.1 ≠ y.1 → ∀ k, x.2.2.ownBlock = some k → y.2.2.ownBlock ≠ some k
theorem RUnits.off {X : Nat → Prop} {w w' : World} {uv : Value} {lu : List (Int × Nat × Value)} {f : Int → AU} (h : RUnits w uv lu f) (ht : Turn X w w') (hX : ∀ k, X k → (∀ c t fr, w.heap[k]? = some (.cells c t fr) → t ≠ 85 ∧ t ≠ 88) ∧ ¬ leftsOf lu k) : RUnits w' uv lu f :=
  ⟨own_turn h.row ht (fun k hk e => by obtain ⟨c, hc, _⟩ := own_cells h.row hk; exact ((hX k e).1 _ _ _ hc).1 rfl),
    fun x hx => ⟨block_turn (h.unit x hx).1 ht (fun e => ((hX _ e).1 _ _ _ (h.unit x hx).1).2 rfl), own_turn (h.unit x hx).2 ht (fun k hk e => (hX _ e).2 ⟨x, hx, hk⟩)⟩, h.none, h.seen, h.keys, h.nodup, h.lefts⟩
/-- A record's parts lie where they lay, if it is a change. -/
def RecIf (w0 : World) (r : Rec) (bv av uv : Value) : Prop := r.kind = 1 → RecAt w0 r bv av uv
/-- The world at the start, and blocks that stay as they are. -/
structure Base extends World where
  gr : Nat → Option Obj
@[reducible] def Base.of (w : World) : Base := ⟨w, fun _ => none⟩
instance : Coe Base World := ⟨Base.toWorld⟩
instance : Coe World Base := ⟨Base.of⟩
/-- Blocks that stay as they are. -/
def Ghosts (gr : Nat → Option Obj) (w : World) (rv : Value) : Prop := ∀ k o, gr k = some o → w.heap[k]? = some o ∧ (∃ c t fr, o = .cells c t fr ∧ t ≠ 83 ∧ t ≠ 85 ∧ t ≠ 88 ∧ t ≠ 3) ∧ rv.ownBlock ≠ some k
theorem Ghosts.turn {gr : Nat → Option Obj} {w w' : World} {rv rv' : Value} {X : Nat → Prop} (h : Ghosts gr w rv) (ht : Turn X w w') (hX : ∀ k, X k → gr k = none ∨ (∀ c t fr, w.heap[k]? = some (.cells c t fr) → t = 83 ∨ t = 85 ∨ t = 88 ∨ t = 3) ∨ rv.ownBlock = some k)
    (hv : ∀ k, rv'.ownBlock = some k → rv.ownBlock = some k ∨ w.heap.size ≤ k) : Ghosts gr w' rv' := fun k o hk => by
  obtain ⟨h1, ⟨c, t, fr, rfl, h2, h3, h4, h5⟩, h6⟩ := h k o hk
  refine ⟨block_turn h1 ht (fun e => ?_), ⟨c, t, fr, rfl, h2, h3, h4, h5⟩, fun e => ?_⟩
  · rcases hX k e with e1 | e1 | e1
    · rw [e1] at hk; cases hk
    · rcases e1 _ _ _ h1 with e1 | e1 | e1 | e1
      · exact h2 e1
      · exact h3 e1
      · exact h4 e1
      · exact h5 e1
    · exact h6 e1
  · rcases hv k e with e1 | e1
    · exact h6 e1
    · have := (Array.getElem?_eq_some_iff.1 h1).1
      omega
structure RefAt (w0 : Base) (w : World) (wb : Nat) (S : RSh) (W : PW) : Prop where
  new : New w0 w
  raw : Raw w wb 83 15482 S.f
  f0 : S.f 0 = S.rv
  f1 : S.f 1 = S.uv
  page : ∀ p, p < 120 → ∀ i, i < 128 → (byteVals (W.page p))[i]? = some (S.f (2 + p * 128 + i))
  stamp : ∀ p, p < 120 → S.f (15362 + p) = .int .i64 (W.stamp p : Int)
  recs : ∃ xs, w.ownsRow 0 36 10 S.rv W.recs.length xs ∧ RecCells (RecIf w0) W.recs xs
  units : RUnits w S.uv S.lu W.unit
  fb : w0.heap.size ≤ wb
  fo : ∀ k, S.rv.ownBlock = some k ∨ S.uv.ownBlock = some k ∨ leftsOf S.lu k → w0.heap.size ≤ k
  fu : ∀ x ∈ S.lu, w0.heap.size ≤ x.2.1
  gh : Ghosts w0.gr w S.rv
variable {w0 : Base} {w w' : World} {wb : Nat} {S : RSh} {W : PW}
theorem RefAt.base (h : RefAt w0 w wb S W) : ∃ c, w.heap[wb]? = some (.cells c 83 (0, 0)) := by
  obtain ⟨cs, h1, _⟩ := h.raw
  exact ⟨cs, h1⟩
/-- What lies elsewhere has turned. -/
theorem RefAt.off {X : Nat → Prop} (h : RefAt w0 w wb S W) (ht : Turn X w w') (hX : ∀ k, X k → w0.heap.size ≤ k ∧ ∀ c t fr, w.heap[k]? = some (.cells c t fr) → t ≠ 83 ∧ t ≠ 36 ∧ t ≠ 85 ∧ t ≠ 88 ∧ t ≠ 3) (hg : ∀ k, X k → w0.gr k = none) : RefAt w0 w' wb S W := by
  obtain ⟨xs, hr1, hr2⟩ := h.recs
  obtain ⟨cb, hcb⟩ := h.base
  refine { h with gh := h.gh.turn ht (fun k hk => .inl (hg k hk)) (fun k hk => .inl hk), new := New.turn h.new ht (fun k hk e => ?_), raw := h.raw.turn ht (fun e => ((hX _ e).2 _ _ _ hcb).1 rfl), recs := ⟨xs, own_turn hr1 ht (fun k hk e => ?_), hr2⟩, units := h.units.off ht (fun k hk => ⟨fun c t fr e => ⟨((hX k hk).2 c t fr e).2.2.1, ((hX k hk).2 c t fr e).2.2.2.1⟩, fun hl => ?_⟩) }
  · have := (hX k e).1
    omega
  · obtain ⟨c, hc, _⟩ := own_cells hr1 hk
    exact ((hX k e).2 _ _ _ hc).2.1 rfl
  · obtain ⟨x, hx, hk2⟩ := hl
    obtain ⟨c, hc, _⟩ := own_cells (h.units.unit x hx).2 hk2
    exact ((hX k hk).2 _ _ _ hc).2.2.2.2 rfl
theorem RefAt.newer (h : RefAt w0 w wb S W) (hn : New w w') : RefAt w0 w' wb S W :=
  h.off (X := fun _ => False) (Turn.of_new hn) (fun k hk => hk.elim) (fun k hk => hk.elim)
/-- The first two cells of the world. -/
theorem RefAt.cell0 (h : RefAt w0 w wb S W) : w.cell? ⟨wb, 0, none⟩ = some S.rv := by rw [h.raw.cell 0 (by decide), h.f0]
theorem RefAt.cell1 (h : RefAt w0 w wb S W) : w.cell? ⟨wb, 1, none⟩ = some S.uv := by rw [h.raw.cell 1 (by decide), h.f1]
theorem RefAt.frozen (h : RefAt w0 w wb S W) (o : Nat) : w.frozen? ⟨wb, o, none⟩ = false := h.raw.frozen o
theorem RefAt.lt (h : RefAt w0 w wb S W) : wb < w.heap.size := h.raw.lt
theorem RefAt.rowR (h : RefAt w0 w wb S W) : ∃ p c, S.rv = .slice p W.recs.length c := by
  obtain ⟨xs, hr1, hr2⟩ := h.recs
  exact own_len hr1
theorem RefAt.rowU (h : RefAt w0 w wb S W) : ∃ p c, S.uv = .slice p S.lu.length c := own_len h.units.row
theorem ref_rec_at (h : RefAt w0 w wb S W) {k : Nat} (h1 : 1 ≤ k) (h2 : k ≤ W.recs.length) (h3 : (recN W.recs k).kind = 1) :
    ∃ g c bv av uv, S.rv = .slice (some ⟨g, 0, none⟩) W.recs.length c ∧ RecAt w0 (recN W.recs k) bv av uv ∧ ∀ j, j < 10 → w.cell? ⟨g, (k - 1) * 10 + j, none⟩ = (recCells (recN W.recs k) bv av uv)[j]? := by
  obtain ⟨xs, hr1, hr2⟩ := h.recs
  obtain ⟨p, c, e⟩ := own_len hr1
  rw [e] at hr1
  have hlt : k - 1 < W.recs.length := by omega
  have hrn : recN W.recs k = W.recs[k - 1] := by unfold recN; rw [List.getElem?_eq_getElem hlt]; rfl
  rcases hr1.2 with ⟨e0, hz⟩ | ⟨g, cap, cur, e0, hg, hh, r⟩
  · omega
  · injection e0 with e1 _ e3
    subst e1 e3
    obtain ⟨bv, av, uv, hr, hj⟩ := rec_row hr1 hr2 rfl hlt
    rw [← hrn] at hr hj
    exact ⟨g, c, bv, av, uv, e, hr h3, hj⟩
theorem RefAt.left_old (h : RefAt w0 w wb S W) {k : Nat} (hk : leftsOf S.lu k) : ∃ c, w.heap[k]? = some (.cells c 3 (0, 0)) := by
  obtain ⟨x, hx, hk2⟩ := hk
  obtain ⟨c, hc, _⟩ := own_cells (h.units.unit x hx).2 hk2
  exact ⟨c, hc⟩
/-- A unit turned. -/
theorem RefAt.setUnit (h : RefAt w0 w wb S W) {n : Int} {b : Nat} {v v' : Value} (hx : (n, b, v) ∈ S.lu) {u' : AU} {X : Nat → Prop} (ht : Turn X w w') (hX : ∀ k, X k → k = b ∨ v.ownBlock = some k)
    (hw : w'.heap[b]? = some (.cells (runitCells n u' v') 88 (0, 0))) (hrow : w'.ownsRow 0 3 1 v' u'.left.length (natVals u'.left)) (hv : ∀ k, v'.ownBlock = some k → v.ownBlock = some k ∨ w.heap.size ≤ k) (hs : u'.seen = true) :
    RefAt w0 w' wb { S with lu := setU S.lu n b v' } { W with unit := fun m => if m = n then u' else W.unit m } := by
  obtain ⟨hu1, hu2⟩ := h.units.unit _ hx
  obtain ⟨xs, hr1, hr2⟩ := h.recs
  obtain ⟨cb, hcb⟩ := h.base
  have hkeys := h.units.keys
  obtain ⟨hb1, hb2⟩ := setU_blocks (v := v') hkeys hx
  have cell : ∀ k, X k → ∀ c t fr, w.heap[k]? = some (.cells c t fr) → t = 88 ∨ t = 3 := fun k hk c t fr e => by
    rcases hX k hk with rfl | hk
    · exact .inl (kind_cells e hu1).2
    · obtain ⟨c', hc, _⟩ := own_cells hu2 hk
      exact .inr (kind_cells e hc).2
  have lown : ∀ k, v.ownBlock = some k → leftsOf S.lu k := fun k hk => ⟨_, hx, hk⟩
  have old : ∀ k, leftsOf S.lu k → k < w.heap.size := fun k hk => by
    obtain ⟨c, hc⟩ := h.left_old hk
    exact (Array.getElem?_eq_some_iff.1 hc).1
  have hsz := h.new.size
  have newl : ∀ k, leftsOf (setU S.lu n b v') k → leftsOf S.lu k ∨ w.heap.size ≤ k := fun k ⟨x, hx', hk⟩ => by
    rcases setU_mem hx' with rfl | ⟨h1, _⟩
    · rcases hv k hk with h2 | h2
      · exact .inl (lown k h2)
      · exact .inr h2
    · exact .inl ⟨x, h1, hk⟩
  have hptr : ptrsOf (setU S.lu n b v') = ptrsOf S.lu := by
    have := congrArg (List.map (fun k : Nat => Value.pointer (some ⟨k, 0, none⟩))) hb1
    rw [List.map_map, List.map_map] at this
    exact this
  refine { h with gh := h.gh.turn ht (fun k hk => .inr (.inl (fun c t fr e => (cell k hk c t fr e).elim (fun h => .inr (.inr (.inl h))) (fun h => .inr (.inr (.inr h)))))) (fun k hk => .inl hk), new := New.turn h.new ht (fun k hk hk2 => ?_), raw := h.raw.turn ht (fun e => ?_), recs := ⟨xs, own_turn hr1 ht (fun k hk e => ?_), hr2⟩, units := ⟨?_, fun x hx' => ?_, fun m hm => ?_, fun x hx' => ?_, ?_, ?_, fun x hx' y hy hxy k hk e => ?_⟩, fo := fun k hk => ?_, fu := fun x hx' => ?_ }
  · rcases hX k hk2 with rfl | h2
    · have := h.fu _ hx
      simp at this
      omega
    · have := h.fo k (.inr (.inr (lown k h2)))
      omega
  · rcases cell _ e _ _ _ hcb with h1 | h1 <;> exact absurd h1 (by decide)
  · obtain ⟨c, hc, _⟩ := own_cells hr1 hk
    rcases cell _ e _ _ _ hc with h1 | h1 <;> exact absurd h1 (by decide)
  · show w'.ownsRow 0 85 1 S.uv (setU S.lu n b v').length (ptrsOf (setU S.lu n b v'))
    rw [hptr, setU_length]
    exact own_turn h.units.row ht (fun k hk e => by
      obtain ⟨c, hc, _⟩ := own_cells h.units.row hk
      rcases cell _ e _ _ _ hc with h1 | h1 <;> exact absurd h1 (by decide))
  · rcases setU_mem hx' with rfl | ⟨h1, h2⟩
    · show w'.heap[b]? = some (.cells (runitCells n (if n = n then u' else _) v') 88 (0, 0)) ∧ w'.ownsRow 0 3 1 v' (if n = n then u' else _).left.length (natVals (if n = n then u' else _).left)
      rw [if_pos rfl]
      exact ⟨hw, hrow⟩
    · show w'.heap[x.2.1]? = some (.cells (runitCells x.1 (if x.1 = n then u' else W.unit x.1) x.2.2) 88 (0, 0)) ∧ w'.ownsRow 0 3 1 x.2.2 (if x.1 = n then u' else W.unit x.1).left.length (natVals (if x.1 = n then u' else W.unit x.1).left)
      rw [if_neg h2]
      obtain ⟨a1, a2⟩ := h.units.unit x h1
      refine ⟨block_turn a1 ht (fun e => ?_), own_turn a2 ht (fun k hk e => ?_)⟩
      · rcases hX _ e with h3 | h3
        · have := inj_of_nodup (fun y : Int × Nat × Value => y.2.1) h.units.nodup h1 hx h3
          exact h2 (by rw [this])
        · obtain ⟨c, hc, _⟩ := own_cells hu2 h3
          exact absurd (kind_cells a1 hc).2 (by decide)
      · rcases hX _ e with rfl | h3
        · obtain ⟨c, hc, _⟩ := own_cells a2 hk
          exact absurd (kind_cells hc hu1).2 (by decide)
        · exact h.units.lefts _ hx x h1 (fun e => h2 e.symm) k h3 hk
  · have hmn : m ≠ n := fun e => hm _ (setU_in hx) e.symm
    show (if m = n then u' else W.unit m) = au0
    rw [if_neg hmn]
    refine h.units.none m (fun x hx' e => ?_)
    have : x ∈ setU S.lu n b v' := List.mem_map.2 ⟨x, hx', by rw [if_neg (fun e2 => hmn (e ▸ e2))]⟩
    exact hm x this e
  · show (if x.1 = n then u' else W.unit x.1).seen = true
    rcases setU_mem hx' with rfl | ⟨h1, h2⟩
    · rw [if_pos rfl]; exact hs
    · rw [if_neg h2]; exact h.units.seen x h1
  · show ((setU S.lu n b v').map (·.1)).Nodup
    rw [setU_keys]
    exact h.units.keys
  · show ((setU S.lu n b v').map (·.2.1)).Nodup
    rw [hb1]
    exact h.units.nodup
  · rcases setU_mem hx' with rfl | ⟨h1, h2⟩
    · rcases setU_mem hy with rfl | ⟨h3, h4⟩
      · exact hxy rfl
      · rcases hv k hk with h5 | h5
        · exact h.units.lefts _ hx y h3 (fun e => h4 e.symm) k h5 e
        · have := old k ⟨y, h3, e⟩
          omega
    · rcases setU_mem hy with rfl | ⟨h3, h4⟩
      · rcases hv k e with h5 | h5
        · exact h.units.lefts x h1 _ hx h2 k hk h5
        · have := old k ⟨x, h1, hk⟩
          omega
      · exact h.units.lefts x h1 y h3 hxy k hk e
  · rcases hk with hk | hk | hk
    · exact h.fo k (.inl hk)
    · exact h.fo k (.inr (.inl hk))
    · rcases newl k hk with h1 | h1
      · exact h.fo k (.inr (.inr h1))
      · omega
  · rcases setU_mem hx' with rfl | ⟨h1, _⟩
    · have hf := h.fu _ hx
      exact hf
    · exact h.fu x h1
/-- The row of records turned. -/
theorem RefAt.setRecs (h : RefAt w0 w wb S W) {rv' : Value} {l : List Rec} {X : Nat → Prop} (ht : Turn X w w') (hX : ∀ k, X k → k = wb ∨ S.rv.ownBlock = some k)
    (hw : Raw w' wb 83 15482 (upd S.f 0 rv')) (hrow : ∃ xs, w'.ownsRow 0 36 10 rv' l.length xs ∧ RecCells (RecIf w0) l xs) (hv : ∀ k, rv'.ownBlock = some k → S.rv.ownBlock = some k ∨ w.heap.size ≤ k) :
    RefAt w0 w' wb { S with f := upd S.f 0 rv', rv := rv' } { W with recs := l } := by
  obtain ⟨xs, hr1, hr2⟩ := h.recs
  obtain ⟨cb, hcb⟩ := h.base
  have cell : ∀ k, X k → ∀ c t fr, w.heap[k]? = some (.cells c t fr) → t = 83 ∨ t = 36 := fun k hk c t fr e => by
    rcases hX k hk with rfl | hk
    · exact .inl (kind_cells e hcb).2
    · obtain ⟨c', hc, _⟩ := own_cells hr1 hk
      exact .inr (kind_cells e hc).2
  have hsz := h.new.size
  refine { h with gh := h.gh.turn ht (fun k hk => (hX k hk).elim (fun e => .inr (.inl (fun c t fr e2 => by subst e; exact .inl (kind_cells e2 hcb).2))) (fun e => .inr (.inr e))) hv, new := New.turn h.new ht (fun k hk hk2 => ?_), raw := hw, f0 := upd_same S.f 0 rv', f1 := (upd_other S.f rv' (show 1 ≠ 0 by decide)).trans h.f1, page := fun p hp i hi => ?_, stamp := fun p hp => (upd_other S.f rv' (show 15362 + p ≠ 0 by omega)).trans (h.stamp p hp), recs := hrow, units := h.units.off ht (fun k hk => ⟨fun c t fr e => ?_, fun hl => ?_⟩), fo := fun k hk => ?_ }
  · rcases hX k hk2 with rfl | h2
    · have := h.fb
      omega
    · have := h.fo k (.inl h2)
      omega
  · show _ = some (upd S.f 0 rv' (2 + p * 128 + i))
    rw [upd_other S.f rv' (show 2 + p * 128 + i ≠ 0 by omega)]
    exact h.page p hp i hi
  · rcases cell k hk c t fr e with h1 | h1 <;> (rw [h1]; decide)
  · obtain ⟨c, hc⟩ := h.left_old hl
    rcases cell k hk _ _ _ hc with h1 | h1 <;> exact absurd h1 (by decide)
  · rcases hk with hk | hk | hk
    · rcases hv k hk with h1 | h1
      · exact h.fo k (.inl h1)
      · omega
    · exact h.fo k (.inr (.inl hk))
    · exact h.fo k (.inr (.inr hk))
/-- A unit appended to the row of units. -/
theorem RefAt.addUnit (h : RefAt w0 w wb S W) {uv' : Value} {n : Int} {b : Nat} {u' : AU} {X : Nat → Prop} (ht : Turn X w w') (hX : ∀ k, X k → k = wb ∨ S.uv.ownBlock = some k)
    (hw : Raw w' wb 83 15482 (upd S.f 1 uv')) (hno : ∀ x ∈ S.lu, x.1 ≠ n) (hb : w.heap.size ≤ b) (hbl : w'.heap[b]? = some (.cells (runitCells n u' (.slice none 0 0)) 88 (0, 0))) (hul : u'.left = []) (hs : u'.seen = true)
    (hrow : w'.ownsRow 0 85 1 uv' (S.lu.length + 1) (ptrsOf S.lu ++ [.pointer (some ⟨b, 0, none⟩)])) (hv : ∀ k, uv'.ownBlock = some k → S.uv.ownBlock = some k ∨ w.heap.size ≤ k) :
    RefAt w0 w' wb { S with f := upd S.f 1 uv', uv := uv', lu := S.lu ++ [(n, b, .slice none 0 0)] } { W with unit := fun m => if m = n then u' else W.unit m } := by
  obtain ⟨xs, hr1, hr2⟩ := h.recs
  obtain ⟨cb, hcb⟩ := h.base
  have cell : ∀ k, X k → ∀ c t fr, w.heap[k]? = some (.cells c t fr) → t = 83 ∨ t = 85 := fun k hk c t fr e => by
    rcases hX k hk with rfl | hk
    · exact .inl (kind_cells e hcb).2
    · obtain ⟨c', hc, _⟩ := own_cells h.units.row hk
      exact .inr (kind_cells e hc).2
  have hsz := h.new.size
  have old : ∀ x ∈ S.lu, x.2.1 < w.heap.size := fun x hx => (Array.getElem?_eq_some_iff.1 (h.units.unit x hx).1).1
  have lo : ∀ k, leftsOf (S.lu ++ [(n, b, Value.slice none 0 0)]) k → leftsOf S.lu k := fun k ⟨x, hx, hk⟩ => by
    rw [List.mem_append, List.mem_singleton] at hx
    rcases hx with hx | rfl
    · exact ⟨x, hx, hk⟩
    · cases hk
  refine { h with gh := h.gh.turn ht (fun k hk => .inr (.inl (fun c t fr e => (cell k hk c t fr e).elim (fun h => .inl h) (fun h => .inr (.inl h))))) (fun k hk => .inl hk), new := New.turn h.new ht (fun k hk hk2 => ?_), raw := hw, f0 := (upd_other S.f uv' (show 0 ≠ 1 by decide)).trans h.f0, f1 := upd_same S.f 1 uv', page := fun p hp i hi => ?_, stamp := fun p hp => (upd_other S.f uv' (show 15362 + p ≠ 1 by omega)).trans (h.stamp p hp), recs := ⟨xs, own_turn hr1 ht (fun k hk e => ?_), hr2⟩, units := ⟨?_, fun x hx => ?_, fun m hm => ?_, fun x hx => ?_, ?_, ?_, fun x hx y hy hxy k hk e => ?_⟩, fo := fun k hk => ?_, fu := fun x hx => ?_ }
  · rcases hX k hk2 with rfl | h2
    · have := h.fb
      omega
    · have := h.fo k (.inr (.inl h2))
      omega
  · show _ = some (upd S.f 1 uv' (2 + p * 128 + i))
    rw [upd_other S.f uv' (show 2 + p * 128 + i ≠ 1 by omega)]
    exact h.page p hp i hi
  · obtain ⟨c, hc, _⟩ := own_cells hr1 hk
    rcases cell _ e _ _ _ hc with h1 | h1 <;> exact absurd h1 (by decide)
  · show w'.ownsRow 0 85 1 uv' (S.lu ++ [(n, b, Value.slice none 0 0)]).length (ptrsOf (S.lu ++ [(n, b, Value.slice none 0 0)]))
    have e1 : ptrsOf (S.lu ++ [(n, b, Value.slice none 0 0)]) = ptrsOf S.lu ++ [.pointer (some ⟨b, 0, none⟩)] := by unfold ptrsOf; rw [List.map_append]; rfl
    rw [e1, List.length_append]
    exact hrow
  · rw [List.mem_append, List.mem_singleton] at hx
    rcases hx with hx | rfl
    · show w'.heap[x.2.1]? = some (.cells (runitCells x.1 (if x.1 = n then u' else W.unit x.1) x.2.2) 88 (0, 0)) ∧ w'.ownsRow 0 3 1 x.2.2 (if x.1 = n then u' else W.unit x.1).left.length (natVals (if x.1 = n then u' else W.unit x.1).left)
      rw [if_neg (hno x hx)]
      obtain ⟨a1, a2⟩ := h.units.unit x hx
      refine ⟨block_turn a1 ht (fun e => ?_), own_turn a2 ht (fun k hk e => ?_)⟩
      · rcases cell _ e _ _ _ a1 with h1 | h1 <;> exact absurd h1 (by decide)
      · obtain ⟨c, hc, _⟩ := own_cells a2 hk
        rcases cell _ e _ _ _ hc with h1 | h1 <;> exact absurd h1 (by decide)
    · show w'.heap[b]? = some (.cells (runitCells n (if n = n then u' else _) (.slice none 0 0)) 88 (0, 0)) ∧ w'.ownsRow 0 3 1 (.slice none 0 0) (if n = n then u' else _).left.length (natVals (if n = n then u' else _).left)
      rw [if_pos rfl, hul]
      exact ⟨hbl, World.ownsRow_nil _ _ _ _⟩
  · have hmn : m ≠ n := fun e => hm _ (List.mem_append.2 (.inr (List.mem_singleton.2 rfl))) e.symm
    show (if m = n then u' else W.unit m) = au0
    rw [if_neg hmn]
    exact h.units.none m (fun x hx => hm x (List.mem_append.2 (.inl hx)))
  · show (if x.1 = n then u' else W.unit x.1).seen = true
    rw [List.mem_append, List.mem_singleton] at hx
    rcases hx with hx | rfl
    · rw [if_neg (hno x hx)]; exact h.units.seen x hx
    · rw [if_pos rfl]; exact hs
  · show ((S.lu ++ [(n, b, Value.slice none 0 0)]).map (·.1)).Nodup
    rw [List.map_append, List.nodup_append]
    refine ⟨h.units.keys, by simp, fun a ha c hc => ?_⟩
    obtain ⟨x, hx, rfl⟩ := List.mem_map.1 ha
    have h1 : c = n := by simpa using hc
    rw [h1]
    exact hno x hx
  · show ((S.lu ++ [(n, b, Value.slice none 0 0)]).map (·.2.1)).Nodup
    rw [List.map_append, List.nodup_append]
    refine ⟨h.units.nodup, by simp, fun a ha c hc => ?_⟩
    obtain ⟨x, hx, rfl⟩ := List.mem_map.1 ha
    have h1 : c = b := by simpa using hc
    have := old x hx
    omega
  · rw [List.mem_append, List.mem_singleton] at hx hy
    rcases hx with hx | rfl
    · rcases hy with hy | rfl
      · exact h.units.lefts x hx y hy hxy k hk e
      · cases e
    · cases hk
  · rcases hk with hk | hk | hk
    · exact h.fo k (.inl hk)
    · rcases hv k hk with h1 | h1
      · exact h.fo k (.inr (.inl h1))
      · omega
    · exact h.fo k (.inr (.inr (lo k hk)))
  · rw [List.mem_append, List.mem_singleton] at hx
    rcases hx with hx | rfl
    · exact h.fu x hx
    · show w0.heap.size ≤ b
      omega
/-- A page and its stamp turned. -/
theorem RefAt.setPage (h : RefAt w0 w wb S W) {n : Nat} {p : ByteArray} {st : Nat} (hn : n < 120) (hp : p.size = 128) {f' : Nat → Value} (ht : Turn (· = wb) w w') (hw : Raw w' wb 83 15482 f')
    (h1 : ∀ i, i < 128 → (byteVals p)[i]? = some (f' (2 + n * 128 + i))) (h2 : f' (15362 + n) = .int .i64 (st : Int)) (h3 : ∀ i, i < 15482 → (i < 2 + n * 128 ∨ 2 + n * 128 + 128 ≤ i) → i ≠ 15362 + n → f' i = S.f i) :
    RefAt w0 w' wb { S with f := f' } { W with page := fun m => if m = n then p else W.page m, stamp := fun m => if m = n then st else W.stamp m } := by
  obtain ⟨xs, hr1, hr2⟩ := h.recs
  obtain ⟨cb, hcb⟩ := h.base
  have cell : ∀ k, k = wb → ∀ c t fr, w.heap[k]? = some (.cells c t fr) → t = 83 := fun k hk c t fr e => by
    subst hk
    exact (kind_cells e hcb).2
  refine { h with gh := h.gh.turn ht (fun k hk => .inr (.inl (fun c t fr e => .inl (cell k hk c t fr e)))) (fun k hk => .inl hk), new := New.turn h.new ht (fun k hk hk2 => ?_), raw := hw, f0 := (h3 0 (by decide) (by omega) (by omega)).trans h.f0, f1 := (h3 1 (by decide) (by omega) (by omega)).trans h.f1, page := fun q hq i hi => ?_, stamp := fun q hq => ?_, recs := ⟨xs, own_turn hr1 ht (fun k hk e => ?_), hr2⟩, units := h.units.off ht (fun k hk => ⟨fun c t fr e => ?_, fun hl => ?_⟩) }
  · have := h.fb
    have e : k = wb := hk2
    omega
  · show (byteVals (if q = n then p else W.page q))[i]? = some (f' (2 + q * 128 + i))
    by_cases hqn : q = n
    · rw [if_pos hqn, hqn]
      exact h1 i hi
    · rw [if_neg hqn, h3 _ (by omega) (by omega) (by omega)]
      exact h.page q hq i hi
  · show f' (15362 + q) = .int .i64 ((if q = n then st else W.stamp q : Nat) : Int)
    by_cases hqn : q = n
    · rw [if_pos hqn, hqn]
      exact h2
    · rw [if_neg hqn, h3 _ (by omega) (by omega) (by omega)]
      exact h.stamp q hq
  · obtain ⟨c, hc, _⟩ := own_cells hr1 hk
    exact absurd (cell _ e _ _ _ hc) (by decide)
  · rw [cell _ hk _ _ _ e]
    decide
  · obtain ⟨c, hc⟩ := h.left_old hl
    exact absurd (cell _ hk _ _ _ hc) (by decide)
end Go.Proofs.Ytmchbciofdokfaa

namespace Go.Proofs.Ytmchbciofdokfaa
open Go.RowKit
set_option linter.unusedSimpArgs false
set_option linter.unusedVariables false

theorem RefAt.unit_at {w0 : Base} {w : World} {wb : Nat} {S : RSh} {W : PW} (h : RefAt w0 w wb S W) {k : Nat} (hk : k < S.lu.length) : ∃ g o c, S.uv = .slice (some ⟨g, o, none⟩) S.lu.length c ∧ S.lu.length ≤ c ∧ c ≤ maxLen ∧ g < w.heap.size ∧ w.cell? ⟨g, o + k, none⟩ = some (.pointer (some ⟨(S.lu[k]).2.1, 0, none⟩)) := by
  obtain ⟨p, c, e, h1, h2, h3⟩ := RowAt.owned h.units.row
  obtain ⟨g, o, e2, hg, hc⟩ := h3 (by omega)
  refine ⟨g, o, c, by rw [e, e2], h1, h2, hg, ?_⟩
  have hl : (ptrsOf S.lu).length = S.lu.length := by unfold ptrsOf; rw [List.length_map]
  rw [hc k (by rw [hl]; exact hk)]
  unfold ptrsOf
  rw [List.getD_eq_getElem?_getD, List.getElem?_map, List.getElem?_eq_getElem hk]
  rfl
theorem RefAt.rowU2 {w0 : Base} {w : World} {wb : Nat} {S : RSh} {W : PW} (h : RefAt w0 w wb S W) : ∃ p c, S.uv = .slice p S.lu.length c ∧ S.lu.length ≤ c ∧ c ≤ 9223372036854775807 := by
  obtain ⟨p, c, e, h1, h2, h3⟩ := RowAt.owned h.units.row
  exact ⟨p, c, e, h1, by unfold maxLen at h2; omega⟩
/-- What find returns. -/
def FindIs (S : RSh) (n : Int) (w : World) (e : Ending) (w' : World) : Prop :=
  ((∀ x ∈ S.lu, x.1 ≠ n) ∧ e = .returned (.pointer none) ∧ w = w') ∨ (∃ x ∈ S.lu, x.1 = n ∧ e = .returned (.pointer (some ⟨x.2.1, 0, none⟩)) ∧ w = w')
set_option maxHeartbeats 2000000 in
theorem find_any (w0 : Base) (wb : Nat) (S : RSh) (W : PW) (n : Int) (w : World) (h : RefAt w0 w wb S W) : Calls Try.prog 48 #[.pointer (some ⟨wb, 0, none⟩), .int .i64 n] w (FindIs S n w) := by
  have H := hid h
  have c1 := h.cell1
  obtain ⟨pu, cu, hu, hu1, hu2⟩ := h.rowU2
  have HU := hid hu
  rw [hu] at c1
  clear h hu
  go_enter Try.func48, Try.ntmps48
  go_wp2_with fail
  go_loop [5] (fun i => ∃ k : Nat, k ≤ S.lu.length ∧ i = .int .i64 k ∧ Hid (∀ j (hj : j < S.lu.length), j < k → (S.lu[j]).1 ≠ n)) (fun i => S.lu.length - (intOf i).toNat)
  case atStart => exact ⟨0, Nat.zero_le _, rfl, hid (fun j hj h => absurd h (Nat.not_lt_zero _))⟩
  case round =>
    obtain ⟨k, hk, rfl, hno⟩ := hrel
    by_cases hlt : k < S.lu.length
    · obtain ⟨g, o, c, e, -, -, hg, hc⟩ := H.out.unit_at hlt
      rw [HU.out] at e
      injection e with e1 _ e3
      subst e1 e3
      have hx := List.getElem_mem hlt
      obtain ⟨hb, -⟩ := H.out.units.unit _ hx
      have HX := hid hx
      have HNEXT : Hid ((S.lu[k]).1 ≠ n → ∀ j (hj : j < S.lu.length), j < k + 1 → (S.lu[j]).1 ≠ n) := hid (fun hm j hj hj2 => by
        rcases Nat.lt_or_ge j k with h | h
        · exact hno.out j hj h
        · obtain rfl : j = k := by omega
          exact hm)
      clear hno hx
      generalize S.lu[k] = x at *
      obtain ⟨xn, xb, xv⟩ := x
      have u0 : w.cell? ⟨xb, 0, none⟩ = some (.int .i64 xn) := cells_of hb 0
      clear hb
      by_cases hn : xn = n
      · have t1 : (xn == n) = true := by simpa using hn
        have HN := hid hn
        clear hn
        go_wp2
        go_ret
        exact .inr ⟨_, HX.out, HN.out, rfl, rfl⟩
      · have t1 : (xn == n) = false := by simpa using hn
        have HN := hid hn
        clear hn
        go_wp2
        go_round
        case rel => exact ⟨k + 1, by omega, by go_num, hid (HNEXT.out HN.out)⟩
        case measure => simp [intOf]; omega
    · obtain rfl : k = S.lu.length := by omega
      have HALL : Hid (∀ x ∈ S.lu, x.1 ≠ n) := hid (fun x hx => by
        obtain ⟨j, hj, rfl⟩ := List.mem_iff_getElem.1 hx
        exact hno.out j hj hj)
      clear hno
      go_wp2
      go_ret
      exact .inl ⟨HALL.out, rfl, rfl⟩
end Go.Proofs.Ytmchbciofdokfaa

namespace Go.Proofs.Ytmchbciofdokfaa
open Go.RowKit
set_option linter.unusedSimpArgs false
set_option linter.unusedVariables false

set_option maxHeartbeats 2000000 in
theorem sameOpens_any (u v : Value) (l m : List Opn) (w : World) (h1 : Opens w u l) (h2 : Opens w v m) : Calls Try.prog 31 #[u, v] w fun e w' => e = .returned (.bool (decide (l = m))) ∧ New w w' := by
  obtain ⟨p, c, rfl, u1, u2, u3⟩ := h1
  obtain ⟨p', c', rfl, v1, v2, v3⟩ := h2
  unfold maxLen at u2 v2
  by_cases hl : l.length = m.length
  · have hl1 : ((l.length : Int) != (m.length : Int)) = false := by simp; omega
    have HL : Hid _ := hl
    have hlm' : m.length = l.length := hl.symm
    clear hl
    go_enter Try.func31, Try.ntmps31
    go_wp2_with fail
    go_loopw [5] (fun i wr => ∃ k : Nat, k ≤ l.length ∧ i = .int .i64 k ∧ New w wr ∧ Hid (∀ j, j < k → l[j]? = m[j]?)) (fun i _ => l.length - (intOf i).toNat)
    case atStart => exact ⟨0, Nat.zero_le _, rfl, New.refl w, hid (fun j hj => absurd hj (Nat.not_lt_zero _))⟩
    case round =>
      obtain ⟨k, hk, rfl, hnew, hall⟩ := hrel
      by_cases hlt : k < l.length
      · have hlm : k < m.length := by rw [hlm']; exact hlt
        clear hlm'
        obtain ⟨b, o, rfl, hb, hc⟩ := u3 (by omega)
        obtain ⟨b', o', rfl, hb', hc'⟩ := v3 (by omega)
        obtain ⟨c0, c1, c2⟩ := opns_at hc k hlt
        obtain ⟨d0, d1, d2⟩ := opns_at hc' k hlm
        rw [← hnew.cell _ _ hb] at c0 c1 c2
        rw [← hnew.cell _ _ hb'] at d0 d1 d2
        clear hc u3 hc' v3
        have hne : Hid (l[k] ≠ m[k] → decide (l = m) = false) := fun h => by
          rw [decide_eq_false_iff_not]; intro e; subst e; exact h rfl
        generalize hx : l[k] = x at *
        generalize hy : m[k] = y at *
        have HX : Hid _ := hx
        have HY : Hid _ := hy
        clear hx hy
        by_cases e1 : x.unit = y.unit
        · by_cases e2 : x.next = y.next
          · by_cases e3 : x.ready.toList = y.ready.toList
            · have E : Hid (x = y) := opn_eq e1 e2 e3
              go_wp2
              go_region
              go_wp2
              go_roundw
              case rel =>
                refine ⟨k + 1, by omega, by go_num, hnew.drew, fun j hj => ?_⟩
                rcases Nat.lt_or_ge j k with h | h
                · exact hall.out j h
                · obtain rfl : j = k := by omega
                  rw [List.getElem?_eq_getElem hlt, List.getElem?_eq_getElem hlm, HX.out, HY.out, E.out]
              case measure => simp [intOf]; omega
            · go_wp2
              go_region
              go_wp2
              go_ret
              exact ⟨ret_bool (hne.out (fun e => e3 (by rw [e]))).symm, hnew.drew⟩
          · go_wp2
            go_region
            go_wp2
            go_ret
            exact ⟨ret_bool (hne.out (fun e => e2 (by rw [e]))).symm, hnew.drew⟩
        · go_wp2
          go_region
          go_wp2
          go_ret
          exact ⟨ret_bool (hne.out (fun e => e1 (by rw [e]))).symm, hnew.drew⟩
      · obtain rfl : k = l.length := by omega
        go_wp2
        go_ret
        exact ⟨ret_bool (by rw [eq_upto HL.out hall.out]; simp), hnew⟩
  · have hl1 : ((l.length : Int) != (m.length : Int)) = true := by simp; omega
    have HL : Hid _ := hl
    clear hl
    go_enter Try.func31, Try.ntmps31
    go_wp2
    go_ret
    exact ⟨ret_bool (by symm; rw [decide_eq_false_iff_not]; intro e; exact HL.out (by rw [e])), New.refl _⟩

def MeetBIs (c r : Rec) (w : World) (e : Ending) (w' : World) : Prop := e = .returned (.bool (meetB c r)) ∧ New w w'
set_option maxHeartbeats 2000000 in
theorem refMeets_any (c r : Rec) (b1 a1 u1 b2 a2 u2 : Value) (w : World) (h1 : RecAt w c b1 a1 u1) (h2 : RecAt w r b2 a2 u2) (g1 : placeB c = true) (g2 : placeB r = true) :
    Calls Try.prog 108 #[.agg (recCells c b1 a1 u1), .agg (recCells r b2 a2 u2)] w (MeetBIs c r w) := by
  obtain ⟨⟨p1, c1, rfl, -, -, -⟩, ⟨p2, c2, rfl, -, -, -⟩, ⟨p3, c3, rfl, -, -, -⟩⟩ := h1
  obtain ⟨⟨q1, d1, rfl, -, -, -⟩, ⟨q2, d2, rfl, -, -, -⟩, ⟨q3, d3, rfl, -, -, -⟩⟩ := h2
  obtain ⟨e0, e1, e2, e3, e4, e5⟩ := place_bounds g1
  obtain ⟨f0, f1, f2, f3, f4, f5⟩ := place_bounds g2
  have HMD : Hid (meetB c r = (decide (c.page = r.page) && decide (c.at_ < r.at_ + (r.after.size : Int)) && decide (r.at_ < c.at_ + (c.after.size : Int)))) := hid rfl
  have hsz1 : c.after.size ≤ 128 := by omega
  have hsz2 : r.after.size ≤ 128 := by omega
  clear g1 g2
  have NQ := hid (Below.alloc (Below.alloc (New.refl w) (Nat.le_refl _) (.cells (recCells c (.slice p1 c.before.size c1) (.slice p2 c.after.size c2) (.slice p3 c.units.length c3)) 36)) (by simp) (.cells (recCells r (.slice q1 r.before.size d1) (.slice q2 r.after.size d2) (.slice q3 r.units.length d3)) 36))
  by_cases hA : c.page = r.page
  case neg =>
    have tA : (c.page == r.page) = false := by simpa using hA
    have HF : Hid (meetB c r = false) := hid (by rw [HMD.out, decide_eq_false hA]; rfl)
    clear hA
    go_enter Try.func108, Try.ntmps108
    go_wp2
    go_ret
    exact ⟨ret_bool HF.out.symm, NQ.out⟩
  have tA : (c.page == r.page) = true := by simpa using hA
  have HA := hid hA
  clear hA
  by_cases hB : c.at_ < r.at_ + (r.after.size : Int)
  case neg =>
    have tB : decide (c.at_ < r.at_ + (r.after.size : Int)) = false := by simpa using hB
    have HF : Hid (meetB c r = false) := hid (by rw [HMD.out, tB]; simp)
    clear hB
    go_enter Try.func108, Try.ntmps108
    go_wp2
    go_ret
    exact ⟨ret_bool HF.out.symm, NQ.out⟩
  have tB : decide (c.at_ < r.at_ + (r.after.size : Int)) = true := by simpa using hB
  clear hB
  by_cases hC : r.at_ < c.at_ + (c.after.size : Int)
  case neg =>
    have tC : decide (r.at_ < c.at_ + (c.after.size : Int)) = false := by simpa using hC
    have HF : Hid (meetB c r = false) := hid (by rw [HMD.out, tC]; simp)
    clear hC
    go_enter Try.func108, Try.ntmps108
    go_wp2
    go_ret
    exact ⟨ret_bool HF.out.symm, NQ.out⟩
  have tC : decide (r.at_ < c.at_ + (c.after.size : Int)) = true := by simpa using hC
  have HY : Hid (meetB c r = true) := hid (by rw [HMD.out, tB, tC, decide_eq_true HA.out]; rfl)
  clear hC
  go_enter Try.func108, Try.ntmps108
  go_wp2
  go_ret
  exact ⟨ret_bool HY.out.symm, NQ.out⟩
end Go.Proofs.Ytmchbciofdokfaa

namespace Go.Proofs.Ytmchbciofdokfaa
open Go.RowKit
set_option linter.unusedSimpArgs false
set_option linter.unusedVariables false

theorem opnVals_take (l : List Opn) (k : Nat) : opnVals (l.take k) = (opnVals l).take (k * 3) := by
  induction l generalizing k with
  | nil => simp [opnVals]
  | cons a l ih =>
    cases k with
    | zero => simp [opnVals]
    | succ k =>
      have := ih k
      simp only [opnVals, List.take_succ_cons, List.flatMap_cons] at *
      rw [this, show (k + 1) * 3 = k * 3 + 3 by omega]
      rfl
theorem opnVals_drop (l : List Opn) (k : Nat) : opnVals (l.drop k) = (opnVals l).drop (k * 3) := by
  induction l generalizing k with
  | nil => simp [opnVals]
  | cons a l ih =>
    cases k with
    | zero => simp [opnVals]
    | succ k =>
      have := ih k
      simp only [opnVals, List.drop_succ_cons, List.flatMap_cons] at *
      rw [this, show (k + 1) * 3 = k * 3 + 3 by omega]
      rfl
theorem opnVals_app (l m : List Opn) : opnVals (l ++ m) = opnVals l ++ opnVals m := by simp [opnVals]
theorem opnVals_len2 (l : List Opn) : (opnVals l).length = l.length * 3 := by rw [opnVals_length]; omega
theorem opnVals_one2 (l : List Opn) : ∀ u ∈ opnVals l, u.oneCell' = true := by
  intro u hu
  unfold opnVals at hu
  obtain ⟨x, _, hx⟩ := List.mem_flatMap.1 hu
  simp at hx
  rcases hx with rfl | rfl | rfl <;> rfl
theorem Opens.take {w : World} {p : Option Addr} {n c : Nat} {l : List Opn} (h : Opens w (.slice p n c) l) {k : Nat} (hk : k ≤ l.length) : Opens w (.slice p k k) (l.take k) := by
  obtain ⟨p', c', e, h1, h2, h3⟩ := h
  injection e with e1 e2 e3
  subst e1 e2 e3
  have hl : (l.take k).length = k := by rw [List.length_take]; omega
  refine ⟨p, k, by rw [hl], by rw [hl]; exact Nat.le_refl _, by omega, fun h0 => ?_⟩
  rw [hl] at h0
  obtain ⟨b, o, e, hb, hc⟩ := h3 (by omega)
  refine ⟨b, o, e, hb, fun i hi => ?_⟩
  rw [opnVals_take] at hi ⊢
  rw [List.length_take] at hi
  rw [hc i (by omega), List.getD_eq_getElem?_getD, List.getD_eq_getElem?_getD, List.getElem?_take, if_pos (by omega)]
theorem Opens.drop {w : World} {b o n c : Nat} {l : List Opn} (h : Opens w (.slice (some ⟨b, o, none⟩) n c) l) {k : Nat} (hk : k ≤ l.length) : Opens w (.slice (some ⟨b, o + k * 3, none⟩) (n - k) (c - k)) (l.drop k) := by
  obtain ⟨p', c', e, h1, h2, h3⟩ := h
  injection e with e1 e2 e3
  subst e1 e2 e3
  refine ⟨_, c - k, by rw [List.length_drop], by rw [List.length_drop]; omega, by omega, fun h0 => ?_⟩
  rw [List.length_drop] at h0
  obtain ⟨b', o', e, hb, hc⟩ := h3 (by omega)
  injection e with e
  injection e with e1 e2
  subst e1 e2
  refine ⟨b, o + k * 3, rfl, hb, fun i hi => ?_⟩
  rw [opnVals_drop] at hi ⊢
  rw [List.length_drop] at hi
  have := hc (k * 3 + i) (by omega)
  rw [← Nat.add_assoc] at this
  rw [this, List.getD_eq_getElem?_getD, List.getD_eq_getElem?_getD, List.getElem?_drop]
theorem Opens.nothing (w : World) (p : Option Addr) (c : Nat) (hc : c ≤ maxLen) : Opens w (.slice p 0 c) [] := ⟨p, c, rfl, Nat.zero_le _, hc, fun h => absurd h (Nat.not_lt_zero _)⟩
theorem Opens.made {w : World} {k : Nat} {u : Opn} (h : w.heap[k]? = some (.cells #[.int .i64 u.unit, .int .i64 u.next, .string u.ready] 47 (0, 0))) : Opens w (.slice (some ⟨k, 0, none⟩) 1 1) [u] := by
  refine ⟨_, 1, rfl, Nat.le_refl _, by decide, fun _ => ⟨k, 0, rfl, (Array.getElem?_eq_some_iff.1 h).1, fun i hi => ?_⟩⟩
  rw [Nat.zero_add, cells_of h i]
  have : i = 0 ∨ i = 1 ∨ i = 2 := by simp [opnVals] at hi; omega
  rcases this with rfl | rfl | rfl <;> rfl
theorem Opens.new {w w' : World} {v : Value} {l : List Opn} (h : Opens w v l) (hn : New w w') : Opens w' v l := RowAt.new h hn
theorem run_append_none {w : World} {b : Addr} {n c : Nat} {u : Value} (hu : Opens w u []) (hnc : n ≤ c) (ty : TypeId) : (Builtin.append_ #[34, 34] ty #[.slice (some b) n c, u]).run Try.prog w = .ok (.slice (some b) n c) w := by
  obtain ⟨p', c', rfl, -, -, -⟩ := hu
  obtain ⟨i0, hi, hz0, hz1, hz2⟩ := info_parts infoOpn
  cases p' with
  | none => simp [Builtin.append_, run_underlying Try.underlying34, sizeOf, typeInfo, zeroValue, hi, hz0, hz1, Builtin.lenOf, hnc, Builtin.firstCells, storeCells]
  | some ad =>
    have hl : (loadCells ad 0).run Try.prog w = .ok #[] w := run_loadCells_list (P := Try.prog) w ad [] (by simp)
    simp [Builtin.append_, run_underlying Try.underlying34, sizeOf, typeInfo, zeroValue, hi, hz0, hz1, Builtin.lenOf, hnc, Builtin.firstCells, hl, storeCells]
theorem own_opens {w : World} {base : Nat} {v : Value} {n : Nat} {l : List Opn} (h : w.ownsRow base 47 3 v n (opnVals l)) (hn : n = l.length) : Opens w v l := by
  subst hn
  exact RowAt.owned h
set_option maxRecDepth 10000 in
/-- append(v, u...) where v is full: the two lists, one behind the other, in new memory. -/
theorem run_append_full {w : World} {p : Option Addr} {n : Nat} {l m : List Opn} {u : Value} (hv : Opens w (.slice p n n) l) (h0 : 0 < l.length ∨ 0 < m.length) (hp : p = none → n = 0) (hu : Opens w u m) (hb : l.length + m.length ≤ 1000000) (ty : TypeId) :
    ∃ q c w', (Builtin.append_ #[34, 34] ty #[.slice p n n, u]).run Try.prog w = .ok (.slice q (l.length + m.length) c) w' ∧ Opens w' (.slice q (l.length + m.length) c) (l ++ m) ∧ New w w' := by
  have hv' := hv
  have hu' := hu
  obtain ⟨p1, c1, e, h1, h2, h3⟩ := hv
  injection e with e1 e2 e3
  subst e1 e2 e3
  obtain ⟨i0, hi, hz0, hz1, hz2⟩ := info_parts infoOpn
  rcases Nat.eq_zero_or_pos m.length with hm | hm
  · have hm0 : m = [] := List.eq_nil_of_length_eq_zero hm
    subst hm0
    cases p with
    | none => have := hp rfl; simp at h0; omega
    | some b => exact ⟨some b, l.length, w, run_append_none hu' (Nat.le_refl _) ty, by rw [List.append_nil]; exact hv', New.refl w⟩
  · obtain ⟨pu, cu, rfl, u1, u2, u3⟩ := hu
    obtain ⟨ub, uo, rfl, hub, huc⟩ := u3 hm
    have hnews : ∀ j x, (opnVals m)[j]? = some x → w.cell? ((⟨ub, uo, none⟩ : Addr).add j) = some x := fun j x hj => by
      have e : (⟨ub, uo, none⟩ : Addr).add j = ⟨ub, uo + j, none⟩ := by unfold Addr.add; split <;> simp_all
      rw [e, huc j (List.getElem?_eq_some_iff.1 hj).1, List.getD_eq_getElem?_getD, hj]
      rfl
    cases p with
    | none =>
      have hn0 := hp rfl
      have hl0 : l = [] := List.eq_nil_of_length_eq_zero hn0
      subst hl0
      obtain ⟨v', w', hr, h5, h6, _⟩ := run_append_own (P := Try.prog) w w.heap.size 34 ty 47 i0 _ 3 32 Try.underlying34 hi hz0 hz1 hz2 rfl (by decide) (.slice none 0 0) 0 [] (World.ownsRow_nil w _ 47 3) ⟨ub, uo, none⟩ m.length cu (opnVals m) (opnVals_len2 m) hnews (opnVals_one2 m) (by unfold maxLen; simp at hb ⊢; omega) (by simp at hb ⊢; omega) (Nat.le_refl _)
      rw [List.nil_append] at h5
      have ho := own_opens h5 (by simp)
      obtain ⟨q, c, rfl⟩ := own_len h5
      exact ⟨q, c, w', hr, by simpa using ho, (New.refl w).grown h6 (Nat.le_refl _) (fun k hk => by cases hk)⟩
    | some b =>
      have hold : ∀ j x, (opnVals l)[j]? = some x → w.cell? (b.add j) = some x := fun j x hj => by
        have hj2 := (List.getElem?_eq_some_iff.1 hj).1
        rw [opnVals_len2] at hj2
        obtain ⟨b', o', e, hb', hc⟩ := h3 (by omega)
        obtain rfl := Option.some.inj e
        have e : (⟨b', o', none⟩ : Addr).add j = ⟨b', o' + j, none⟩ := by unfold Addr.add; split <;> simp_all
        rw [e, hc j (List.getElem?_eq_some_iff.1 hj).1, List.getD_eq_getElem?_getD, hj]
        rfl
      obtain ⟨v', w', hr, h5, h6⟩ := run_append_arg_grows (P := Try.prog) w 34 ty 47 i0 _ 3 32 Try.underlying34 hi hz0 hz1 hz2 rfl (by decide) b l.length l.length (opnVals l) (opnVals_len2 l) hold ⟨ub, uo, none⟩ m.length cu (opnVals m) (opnVals_len2 m) hnews (by omega) (by unfold maxLen; omega) (by omega)
      rw [← opnVals_app] at h5
      have ho := own_opens h5 (by simp)
      obtain ⟨q, c, rfl⟩ := own_len h5
      exact ⟨q, c, w', hr, ho, (New.refl w).grown h6 (Nat.le_refl _) (fun k hk => by cases hk)⟩
/-- The same, as a step of a region that draws. -/
theorem step_app_full {ops : Array Oper} {o : Oper} {a : Act} {w : World} {K : Act → World → Prop} {Q : Exit → Act → World → Prop} {E : Prop} (hgd : o.guard = none) (sl x : Operand)
    (ho : o.op = .call { callee := .builtin .append, args := #[sl, x], argTypes := #[34, 34] }) (p : Option Addr) (n : Nat) (l m : List Opn) (u : Value) (hs : a.eval sl = .slice p n n) (hx : a.eval x = u)
    (hv : Opens w (.slice p n n) l) (h0 : 0 < l.length ∨ 0 < m.length) (hp : p = none → n = 0) (hu : Opens w u m) (hb : l.length + m.length ≤ 1000000) (N : Nat) (hN : l.length + m.length = N)
    (h : ∀ q c w', Opens w' (.slice q N c) (l ++ m) → New w w' → K (a.put o.dst (.slice q N c)) w') :
    if Region.wanted o (yielded ops a.tmps) = true then Oper.wp Try.prog o a w K Q else E := by
  subst hN
  have hw : Region.wanted o (yielded ops a.tmps) = true := by simp [Region.wanted, hgd]
  rw [if_pos hw]
  obtain ⟨q, c, w', hr, h2, h3⟩ := run_append_full hv h0 hp hu hb o.type
  unfold Oper.wp execOp
  simp only [ho, resolve, invoke, builtin, Sem.run_bind, Sem.run_pure, Result.andThen_ok, List.map_toArray, List.map_cons, List.map_nil, hs, hx, hr]
  exact h q c w' h2 h3

/-! ## In plain words -/
/-- What is collected of the units that came first. -/
structure IsColl (f : Int → AU) (lu : List (Int × Nat × Value)) (k : Nat) (ol : List Opn) : Prop where
  sorted : (ol.map (·.unit)).Pairwise (· < ·)
  mem : ∀ o, o ∈ ol ↔ ∃ x ∈ lu.take k, (f x.1).st ≤ 1 ∧ o = openOf x.1 (f x.1)
  len : ol.length ≤ k
theorem IsColl.nil (f : Int → AU) (lu : List (Int × Nat × Value)) : IsColl f lu 0 [] := ⟨by simp, fun o => by simp, Nat.le_refl _⟩
theorem IsColl.skip {f : Int → AU} {lu : List (Int × Nat × Value)} {k : Nat} {ol : List Opn} (h : IsColl f lu k ol) {x : Int × Nat × Value} (ht : lu.take (k + 1) = lu.take k ++ [x]) (hn : ¬ (f x.1).st ≤ 1) : IsColl f lu (k + 1) ol := by
  refine ⟨h.sorted, fun o => ?_, by have := h.len; omega⟩
  rw [h.mem, ht]
  constructor
  · rintro ⟨y, hy, h1⟩
    exact ⟨y, List.mem_append.2 (.inl hy), h1⟩
  · rintro ⟨y, hy, h1, h2⟩
    rcases List.mem_append.1 hy with h3 | h3
    · exact ⟨y, h3, h1, h2⟩
    · rw [List.mem_singleton] at h3
      subst h3
      exact absurd h1 hn
theorem IsColl.put {f : Int → AU} {lu : List (Int × Nat × Value)} {k : Nat} {ol : List Opn} (h : IsColl f lu k ol) {x : Int × Nat × Value} (ht : lu.take (k + 1) = lu.take k ++ [x]) (hy : (f x.1).st ≤ 1) (hnd : (lu.map (·.1)).Nodup) {j : Nat} (hj : j ≤ ol.length)
    (ha : ∀ i (hi : i < ol.length), j ≤ i → x.1 < (ol[i]).unit) (hb : 0 < j → ∃ (hj : j - 1 < ol.length), (ol[j - 1]).unit ≤ x.1) : IsColl f lu (k + 1) (ol.take j ++ ([openOf x.1 (f x.1)] ++ ol.drop j)) := by
  have hne : ∀ o ∈ ol, o.unit ≠ x.1 := fun o ho e => by
    obtain ⟨y, hy1, _, rfl⟩ := (h.mem o).1 ho
    have e : y.1 = x.1 := e
    have h1 : ((lu.take (k + 1)).map (·.1)).Nodup := List.Nodup.sublist (List.Sublist.map _ (List.take_sublist _ _)) hnd
    rw [ht, List.map_append, List.nodup_append] at h1
    exact h1.2.2 y.1 (List.mem_map_of_mem hy1) x.1 (by simp) e
  have hlow : ∀ o ∈ ol.take j, o.unit < x.1 := fun o ho => by
    obtain ⟨i, hi, rfl⟩ := List.mem_iff_getElem.1 ho
    rw [List.length_take] at hi
    rw [List.getElem_take]
    obtain ⟨hj1, hlast⟩ := hb (by omega)
    have hl : (ol[j - 1]).unit < x.1 := by
      have := hne _ (List.getElem_mem hj1)
      omega
    rcases Nat.lt_or_ge i (j - 1) with h1 | h1
    · have h2 := List.pairwise_iff_getElem.1 h.sorted i (j - 1) (by rw [List.length_map]; omega) (by rw [List.length_map]; omega) h1
      rw [List.getElem_map, List.getElem_map] at h2
      omega
    · obtain rfl : i = j - 1 := by omega
      exact hl
  have hhigh : ∀ o ∈ ol.drop j, x.1 < o.unit := fun o ho => by
    obtain ⟨i, hi, rfl⟩ := List.mem_iff_getElem.1 ho
    rw [List.getElem_drop]
    exact ha _ _ (by omega)
  refine ⟨?_, fun o => ?_, ?_⟩
  · rw [List.map_append, List.map_append, List.pairwise_append, List.map_take, List.map_drop]
    refine ⟨List.Pairwise.sublist (List.take_sublist _ _) h.sorted, ?_, fun a ha' b hb' => ?_⟩
    · rw [List.map_singleton, List.singleton_append, List.pairwise_cons]
      refine ⟨fun b hb' => ?_, List.Pairwise.sublist (List.drop_sublist _ _) h.sorted⟩
      rw [← List.map_drop] at hb'
      obtain ⟨o, ho, rfl⟩ := List.mem_map.1 hb'
      exact hhigh o ho
    · rw [← List.map_take] at ha'
      obtain ⟨o, ho, rfl⟩ := List.mem_map.1 ha'
      have h1 := hlow o ho
      rw [List.map_singleton, List.singleton_append, List.mem_cons, ← List.map_drop] at hb'
      rcases hb' with rfl | hb'
      · exact h1
      · obtain ⟨o2, ho2, rfl⟩ := List.mem_map.1 hb'
        have := hhigh o2 ho2
        omega
  · have key : o ∈ ol.take j ++ ([openOf x.1 (f x.1)] ++ ol.drop j) ↔ o ∈ ol ∨ o = openOf x.1 (f x.1) := by
      have e : o ∈ ol ↔ o ∈ ol.take j ∨ o ∈ ol.drop j := by
        conv => lhs; rw [← List.take_append_drop j ol]
        exact List.mem_append
      rw [List.mem_append, List.mem_append, List.mem_singleton, e]
      constructor
      · rintro (h | h | h)
        · exact .inl (.inl h)
        · exact .inr h
        · exact .inl (.inr h)
      · rintro ((h | h) | h)
        · exact .inl h
        · exact .inr (.inr h)
        · exact .inr (.inl h)
    rw [key, h.mem, ht]
    constructor
    · rintro (⟨y, hy1, h1, h2⟩ | rfl)
      · exact ⟨y, List.mem_append.2 (.inl hy1), h1, h2⟩
      · exact ⟨x, List.mem_append.2 (.inr (List.mem_singleton.2 rfl)), hy, rfl⟩
    · rintro ⟨y, hy1, h1, h2⟩
      rcases List.mem_append.1 hy1 with h3 | h3
      · exact .inl ⟨y, h3, h1, h2⟩
      · rw [List.mem_singleton] at h3
        subst h3
        exact .inr h2
  · have := h.len
    rw [List.length_append, List.length_append, List.length_take, List.length_drop, List.length_singleton]
    omega
theorem IsColl.all {f : Int → AU} {lu : List (Int × Nat × Value)} {ol : List Opn} (h : IsColl f lu lu.length ol) (hnone : ∀ n, (∀ x ∈ lu, x.1 ≠ n) → f n = au0) (hseen : ∀ x ∈ lu, (f x.1).seen = true) : IsOpens f ol := by
  refine ⟨h.sorted, fun o => ?_⟩
  rw [h.mem, List.take_length]
  constructor
  · rintro ⟨y, hy, h1, rfl⟩
    exact ⟨⟨hseen y hy, h1⟩, rfl⟩
  · rintro ⟨h1, h2⟩
    by_cases hx : ∀ x ∈ lu, x.1 ≠ o.unit
    · have := hnone _ hx
      rw [this] at h1
      cases h1.1
    · simp only [Classical.not_forall] at hx
      obtain ⟨x, hx, hxn⟩ := hx
      have hxn : x.1 = o.unit := Classical.not_not.1 hxn
      exact ⟨x, hx, by rw [hxn]; exact h1.2, by rw [hxn]; exact h2⟩
end Go.Proofs.Ytmchbciofdokfaa
