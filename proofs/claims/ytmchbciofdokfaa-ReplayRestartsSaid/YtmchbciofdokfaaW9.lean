/- What add turns: a unit, the row of records, the row of committed units. -/
import Derived.Test.YtmchbciofdokfaaW8
namespace Go.Proofs.Ytmchbciofdokfaa
open Go.RowKit
open Go.ChangeMaps (setBlock)
set_option linter.unusedSimpArgs false
set_option linter.unusedVariables false

/-- A unit's entry is another one. -/
def setU (lu : List (Int × Nat × Value)) (n : Int) (b : Nat) (v : Value) : List (Int × Nat × Value) := lu.map fun x => if x.1 = n then (n, b, v) else x
theorem setU_keys (lu : List (Int × Nat × Value)) (n : Int) (b : Nat) (v : Value) : (setU lu n b v).map (·.1) = lu.map (·.1) := by
  unfold setU
  rw [List.map_map]
  apply List.map_congr_left
  intro x _
  simp only [Function.comp_apply]
  split
  · rename_i h
    exact h.symm
  · rfl
theorem setU_mem {lu : List (Int × Nat × Value)} {n : Int} {b : Nat} {v : Value} {x : Int × Nat × Value} (h : x ∈ setU lu n b v) : x = (n, b, v) ∨ (x ∈ lu ∧ x.1 ≠ n) := by
  unfold setU at h
  obtain ⟨y, hy, rfl⟩ := List.mem_map.1 h
  split
  · exact .inl rfl
  · rename_i hn
    exact .inr ⟨hy, hn⟩
theorem setU_in {lu : List (Int × Nat × Value)} {n : Int} {b : Nat} {u v : Value} (h : (n, b, u) ∈ lu) : (n, b, v) ∈ setU lu n b v := List.mem_map.2 ⟨_, h, by simp⟩
theorem setU_blocks {lu : List (Int × Nat × Value)} {n : Int} {b : Nat} {u v : Value} (hk : (lu.map (·.1)).Nodup) (h : (n, b, u) ∈ lu) : (setU lu n b v).map (·.2.1) = lu.map (·.2.1) ∧ ((setU lu n b v).map fun x => (x.1, Value.pointer (some ⟨x.2.1, 0, none⟩))) = lu.map fun x => (x.1, Value.pointer (some ⟨x.2.1, 0, none⟩)) := by
  have key : ∀ x ∈ lu, x.1 = n → x.2.1 = b := fun x hx e => by rw [inj_of_nodup (fun y : Int × Nat × Value => y.1) hk hx h e]
  unfold setU
  rw [List.map_map, List.map_map]
  constructor
  · apply List.map_congr_left
    intro x hx
    simp only [Function.comp_apply]
    split
    · rename_i e
      exact (key x hx e).symm
    · rfl
  · apply List.map_congr_left
    intro x hx
    simp only [Function.comp_apply]
    split
    · rename_i e
      rw [key x hx e, e]
    · rfl
theorem setU_length (lu : List (Int × Nat × Value)) (n : Int) (b : Nat) (v : Value) : (setU lu n b v).length = lu.length := by unfold setU; rw [List.length_map]
/-- A unit turned. -/
theorem WorldAt.setUnit {w0 w w' : World} {wb : Nat} {S : WSh} {W : PW} (h : WorldAt w0 w wb S W) {n : Int} {b : Nat} {v v' : Value} (hx : (n, b, v) ∈ S.lu) {u' : AU} {X : Nat → Prop} (ht : Turn X w w') (hX : ∀ k, X k → k = b ∨ v.ownBlock = some k)
    (hw : w'.heap[b]? = some (.cells (unitCells u' v') 66 (0, 0))) (hrow : w'.ownsRow 0 3 1 v' u'.left.length (natVals u'.left)) (hv : ∀ k, v'.ownBlock = some k → v.ownBlock = some k ∨ w.heap.size ≤ k) :
    WorldAt w0 w' wb { S with lu := setU S.lu n b v' } { W with unit := fun m => if m = n then u' else W.unit m } := by
  obtain ⟨hu1, hu2⟩ := h.units.unit _ hx
  obtain ⟨xs, hr1, hr2⟩ := h.recs
  have hkeys := h.units.keys
  obtain ⟨hb1, hb2⟩ := setU_blocks (v := v') hkeys hx
  have typ : ∀ k, X k → ∃ c t, w.heap[k]? = some (.cells c t (0, 0)) ∧ (t = 66 ∨ t = 3) := fun k hk => by
    rcases hX k hk with rfl | hk
    · exact ⟨_, _, hu1, .inl rfl⟩
    · obtain ⟨c, hc, _⟩ := own_cells hu2 hk
      exact ⟨c, 3, hc, .inr rfl⟩
  have cell : ∀ k, X k → ∀ c t fr, w.heap[k]? = some (.cells c t fr) → t = 66 ∨ t = 3 := fun k hk c t fr e => by
    obtain ⟨c', t', e', ht'⟩ := typ k hk
    rw [(kind_cells e e').2]
    exact ht'
  have nomap : ∀ k, X k → ∀ b l, IMap w b l → k ≠ b := fun k hk b l hm e => by
    obtain ⟨c', t', e', ht'⟩ := typ k hk
    exact imap_not hm _ _ _ (e ▸ e')
  have lown : ∀ k, v.ownBlock = some k → leftsOf S.lu k := fun k hk => ⟨_, hx, hk⟩
  have old : ∀ k, leftsOf S.lu k → k < w.heap.size := fun k ⟨x, hx, hk⟩ => by
    obtain ⟨c, hc, _⟩ := own_cells (h.units.unit x hx).2 hk
    exact (Array.getElem?_eq_some_iff.1 hc).1
  have winlt : ∀ k, S.wv.ownBlock = some k → k < w.heap.size := fun k hk => by
    obtain ⟨c, hc, _⟩ := own_cells h.wins hk
    exact (Array.getElem?_eq_some_iff.1 hc).1
  have hsz := h.new.size
  have newl : ∀ k, leftsOf (setU S.lu n b v') k → leftsOf S.lu k ∨ w.heap.size ≤ k := fun k ⟨x, hx', hk⟩ => by
    rcases setU_mem hx' with rfl | ⟨h1, _⟩
    · rcases hv k hk with h2 | h2
      · exact .inl (lown k h2)
      · exact .inr h2
    · exact .inl ⟨x, h1, hk⟩
  refine { h with new := New.turn h.new ht (fun k hk hk2 => ?_), base := block_turn h.base ht (fun e => ?_), recs := ⟨xs, own_turn hr1 ht (fun k hk e => ?_), hr2⟩, wins := own_turn h.wins ht (fun k hk e => ?_), pages := h.pages.off ht (fun k hk => ⟨fun c t fr e e2 => ?_, nomap k hk _ _ h.pages.map⟩), stamps := h.stamps.off ht (fun k hk => nomap k hk _ _ h.stamps.map), units := ⟨?_, fun x hx' => ?_, fun m hm => ?_, ?_, fun x hx' y hy hxy k hk e => ?_⟩, wl := fun k hk hl => ?_, fo := fun k hk => ?_, fu := fun x hx' => ?_ }
  · rcases hX k hk2 with rfl | h2
    · have := h.fu _ hx
      simp at this
      omega
    · have := h.fo k (.inr (.inr (lown k h2)))
      omega
  · rcases cell _ e _ _ _ h.base with h1 | h1 <;> exact absurd h1 (by decide)
  · obtain ⟨c, hc, _⟩ := own_cells hr1 hk
    rcases cell _ e _ _ _ hc with h1 | h1 <;> exact absurd h1 (by decide)
  · rcases hX k e with rfl | h2
    · obtain ⟨c, hc, _⟩ := own_cells h.wins hk
      exact absurd (kind_cells hc hu1).2 (by decide)
    · exact h.wl k hk (lown k h2)
  · rcases cell k hk c t fr e with h1 | h1
    · rw [h1] at e2; exact absurd e2 (by decide)
    · rw [h1] at e2; exact absurd e2 (by decide)
  · show IMap w' S.un ((setU S.lu n b v').map fun x => (x.1, Value.pointer (some ⟨x.2.1, 0, none⟩)))
    rw [hb2]
    exact imap_turn h.units.map ht (fun e => nomap _ e _ _ h.units.map rfl)
  · rcases setU_mem hx' with rfl | ⟨h1, h2⟩
    · show w'.heap[b]? = some (.cells (unitCells (if n = n then u' else _) v') 66 (0, 0)) ∧ w'.ownsRow 0 3 1 v' (if n = n then u' else _).left.length (natVals (if n = n then u' else _).left)
      rw [if_pos rfl]
      exact ⟨hw, hrow⟩
    · show w'.heap[x.2.1]? = some (.cells (unitCells (if x.1 = n then u' else W.unit x.1) x.2.2) 66 (0, 0)) ∧ w'.ownsRow 0 3 1 x.2.2 (if x.1 = n then u' else W.unit x.1).left.length (natVals (if x.1 = n then u' else W.unit x.1).left)
      rw [if_neg h2]
      obtain ⟨a1, a2⟩ := h.units.unit x h1
      refine ⟨block_turn a1 ht (fun e => ?_), own_turn a2 ht (fun k hk e => ?_)⟩
      · rcases hX _ e with h3 | h3
        · have := inj_of_nodup (fun y : Int × Nat × Value => y.2.1) h.units.nodup h1 hx h3
          exact h2 (by rw [this])
        · obtain ⟨c, hc, _⟩ := own_cells hu2 h3
          exact absurd (kind_cells a1 hc).2 (by decide)
      · rcases hX _ e with rfl | h3
        · obtain ⟨c, hc, _⟩ := own_cells a2 hk
          exact absurd (kind_cells hc hu1).2 (by decide)
        · exact h.units.lefts _ hx x h1 (fun e => h2 e.symm) k h3 hk
  · have hmn : m ≠ n := fun e => hm _ (setU_in hx) e.symm
    show (if m = n then u' else W.unit m) = au0
    rw [if_neg hmn]
    refine h.units.none m (fun x hx' e => ?_)
    have : x ∈ setU S.lu n b v' := List.mem_map.2 ⟨x, hx', by rw [if_neg (fun e2 => hmn (e ▸ e2))]⟩
    exact hm x this e
  · show ((setU S.lu n b v').map (·.2.1)).Nodup
    rw [hb1]
    exact h.units.nodup
  · rcases setU_mem hx' with rfl | ⟨h1, h2⟩
    · rcases setU_mem hy with rfl | ⟨h3, h4⟩
      · exact hxy rfl
      · rcases hv k hk with h5 | h5
        · exact h.units.lefts _ hx y h3 (fun e => h4 e.symm) k h5 e
        · have := old k ⟨y, h3, e⟩
          omega
    · rcases setU_mem hy with rfl | ⟨h3, h4⟩
      · rcases hv k e with h5 | h5
        · exact h.units.lefts x h1 _ hx h2 k hk h5
        · have := old k ⟨x, h1, hk⟩
          omega
      · exact h.units.lefts x h1 y h3 hxy k hk e
  · rcases newl k hl with h1 | h1
    · exact h.wl k hk h1
    · have := winlt k hk
      omega
  · rcases hk with hk | hk | hk
    · exact h.fo k (.inl hk)
    · exact h.fo k (.inr (.inl hk))
    · rcases newl k hk with h1 | h1
      · exact h.fo k (.inr (.inr h1))
      · omega
  · rcases setU_mem hx' with rfl | ⟨h1, _⟩
    · have hf := h.fu _ hx
      exact hf
    · exact h.fu x h1
/-- The row of records turned. -/
theorem WorldAt.setRecs {w0 w w' : World} {wb : Nat} {S : WSh} {W : PW} (h : WorldAt w0 w wb S W) {rv' : Value} {l : List Rec} {X : Nat → Prop} (ht : Turn X w w') (hX : ∀ k, X k → k = wb ∨ S.rv.ownBlock = some k)
    (hw : w'.heap[wb]? = some (.cells #[rv', .map (some S.pg), .map (some S.sm), .map (some S.un), S.wv] 64 (0, 0))) (hrow : ∃ xs, w'.ownsRow 0 36 10 rv' l.length xs ∧ RecCells (RecAt w0) l xs) (hv : ∀ k, rv'.ownBlock = some k → S.rv.ownBlock = some k ∨ w.heap.size ≤ k) :
    WorldAt w0 w' wb { S with rv := rv' } { W with recs := l } := by
  obtain ⟨xs, hr1, hr2⟩ := h.recs
  have cell : ∀ k, X k → ∀ c t fr, w.heap[k]? = some (.cells c t fr) → t = 64 ∨ t = 36 := fun k hk c t fr e => by
    rcases hX k hk with rfl | hk
    · exact .inl (kind_cells e h.base).2
    · obtain ⟨c', hc, _⟩ := own_cells hr1 hk
      exact .inr (kind_cells e hc).2
  have nomap : ∀ k, X k → ∀ b l, IMap w b l → k ≠ b := fun k hk b l hm e => by
    rcases hX k hk with rfl | hk
    · exact imap_not hm _ _ _ (e ▸ h.base)
    · obtain ⟨c', hc, _⟩ := own_cells hr1 hk
      exact imap_not hm _ _ _ (e ▸ hc)
  have hsz := h.new.size
  refine { h with new := New.turn h.new ht (fun k hk hk2 => ?_), base := hw, recs := hrow, wins := own_turn h.wins ht (fun k hk e => ?_), pages := h.pages.off ht (fun k hk => ⟨fun c t fr e e2 => ?_, nomap k hk _ _ h.pages.map⟩), stamps := h.stamps.off ht (fun k hk => nomap k hk _ _ h.stamps.map), units := h.units.off ht (fun k hk => ⟨fun c t fr e e2 => ?_, nomap k hk _ _ h.units.map, fun hl => ?_⟩), fo := fun k hk => ?_ }
  · rcases hX k hk2 with rfl | h2
    · have := h.fb.1
      omega
    · have := h.fo k (.inl h2)
      omega
  · obtain ⟨c, hc, _⟩ := own_cells h.wins hk
    rcases cell _ e _ _ _ hc with h1 | h1 <;> exact absurd h1 (by decide)
  · rcases cell k hk c t fr e with h1 | h1 <;> (rw [h1] at e2; exact absurd e2 (by decide))
  · rcases cell k hk c t fr e with h1 | h1 <;> (rw [h1] at e2; exact absurd e2 (by decide))
  · obtain ⟨x, hx, hk2⟩ := hl
    obtain ⟨c, hc, _⟩ := own_cells (h.units.unit x hx).2 hk2
    rcases cell k hk _ _ _ hc with h1 | h1 <;> exact absurd h1 (by decide)
  · rcases hk with hk | hk | hk
    · rcases hv k hk with h1 | h1
      · exact h.fo k (.inl h1)
      · omega
    · exact h.fo k (.inr (.inl hk))
    · exact h.fo k (.inr (.inr hk))
/-- The row of committed units turned. -/
theorem WorldAt.setWins {w0 w w' : World} {wb : Nat} {S : WSh} {W : PW} (h : WorldAt w0 w wb S W) {wv' : Value} {l : List Int} {X : Nat → Prop} (ht : Turn X w w') (hX : ∀ k, X k → k = wb ∨ S.wv.ownBlock = some k)
    (hw : w'.heap[wb]? = some (.cells #[S.rv, .map (some S.pg), .map (some S.sm), .map (some S.un), wv'] 64 (0, 0))) (hrow : w'.ownsRow 0 3 1 wv' l.length (l.map (Value.int .i64))) (hv : ∀ k, wv'.ownBlock = some k → S.wv.ownBlock = some k ∨ w.heap.size ≤ k) :
    WorldAt w0 w' wb { S with wv := wv' } { W with wins := l } := by
  obtain ⟨xs, hr1, hr2⟩ := h.recs
  have cell : ∀ k, X k → ∀ c t fr, w.heap[k]? = some (.cells c t fr) → t = 64 ∨ t = 3 := fun k hk c t fr e => by
    rcases hX k hk with rfl | hk
    · exact .inl (kind_cells e h.base).2
    · obtain ⟨c', hc, _⟩ := own_cells h.wins hk
      exact .inr (kind_cells e hc).2
  have nomap : ∀ k, X k → ∀ b l, IMap w b l → k ≠ b := fun k hk b l hm e => by
    rcases hX k hk with rfl | hk
    · exact imap_not hm _ _ _ (e ▸ h.base)
    · obtain ⟨c', hc, _⟩ := own_cells h.wins hk
      exact imap_not hm _ _ _ (e ▸ hc)
  have hsz := h.new.size
  have leftlt : ∀ k, leftsOf S.lu k → k < w.heap.size := fun k ⟨x, hx, hk⟩ => by
    obtain ⟨c, hc, _⟩ := own_cells (h.units.unit x hx).2 hk
    exact (Array.getElem?_eq_some_iff.1 hc).1
  refine { h with new := New.turn h.new ht (fun k hk hk2 => ?_), base := hw, recs := ⟨xs, own_turn hr1 ht (fun k hk e => ?_), hr2⟩, wins := hrow, pages := h.pages.off ht (fun k hk => ⟨fun c t fr e e2 => ?_, nomap k hk _ _ h.pages.map⟩), stamps := h.stamps.off ht (fun k hk => nomap k hk _ _ h.stamps.map), units := h.units.off ht (fun k hk => ⟨fun c t fr e e2 => ?_, nomap k hk _ _ h.units.map, fun hl => ?_⟩), wl := fun k hk hl => ?_, fo := fun k hk => ?_ }
  · rcases hX k hk2 with rfl | h2
    · have := h.fb.1
      omega
    · have := h.fo k (.inr (.inl h2))
      omega
  · obtain ⟨c, hc, _⟩ := own_cells hr1 hk
    rcases cell _ e _ _ _ hc with h1 | h1 <;> exact absurd h1 (by decide)
  · rcases cell k hk c t fr e with h1 | h1 <;> (rw [h1] at e2; exact absurd e2 (by decide))
  · rcases cell k hk c t fr e with h1 | h1 <;> (rw [h1] at e2; exact absurd e2 (by decide))
  · rcases hX k hk with rfl | h1
    · obtain ⟨x, hx, hk2⟩ := hl
      obtain ⟨c, hc, _⟩ := own_cells (h.units.unit x hx).2 hk2
      exact absurd (kind_cells hc h.base).2 (by decide)
    · exact h.wl k h1 hl
  · rcases hv k hk with h1 | h1
    · exact h.wl k h1 hl
    · have := leftlt k hl
      omega
  · rcases hk with hk | hk | hk
    · exact h.fo k (.inl hk)
    · rcases hv k hk with h1 | h1
      · exact h.fo k (.inr (.inl h1))
      · omega
    · exact h.fo k (.inr (.inr hk))
end Go.Proofs.Ytmchbciofdokfaa
