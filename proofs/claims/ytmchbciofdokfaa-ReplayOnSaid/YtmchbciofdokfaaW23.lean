/- Restart: what lies in memory while it runs; the closure that ends units. -/
import Derived.Test.YtmchbciofdokfaaW21
import Derived.Test.YtmchbciofdokfaaW22
import Derived.Test.YtmchbciofdokfaaW13L
namespace Go.Proofs.Ytmchbciofdokfaa
open Go.RowKit
open Go.ChangeMaps (setBlock)
set_option linter.unusedSimpArgs false
set_option linter.unusedVariables false

theorem WorldAt.besides {w0 w w' : World} {wb : Nat} {S : WSh} {W : PW} {X : Nat → Prop} (h : WorldAt w0 w wb S W) (ht : Turn X w w') (hX : ∀ k, X k → w0.heap.size ≤ k ∧ S.rv.ownBlock ≠ some k ∧ (∃ c t fr, w.heap[k]? = some (.cells c t fr) ∧ t ≠ 64 ∧ t ≠ 5 ∧ t ≠ 66 ∧ t ≠ 3)) : WorldAt w0 w' wb S W := by
  obtain ⟨xs, hr1, hr2⟩ := h.recs
  have typ : ∀ k, X k → ∀ c t fr, w.heap[k]? = some (.cells c t fr) → t ≠ 64 ∧ t ≠ 5 ∧ t ≠ 66 ∧ t ≠ 3 := fun k hk c t fr e => by
    obtain ⟨c', t', fr', e', h'⟩ := (hX k hk).2.2
    rw [(kind_cells e e').2]
    exact h'
  have nomap : ∀ k, X k → ∀ b l, IMap w b l → k ≠ b := fun k hk b l hm e => by
    obtain ⟨c', t', fr', e', h'⟩ := (hX k hk).2.2
    exact imap_not hm _ _ _ (e ▸ e')
  refine { h with new := New.turn h.new ht (fun k hk e => ?_), base := block_turn h.base ht (fun e => (typ _ e _ _ _ h.base).1 rfl), recs := ⟨xs, own_turn hr1 ht (fun k hk e => (hX _ e).2.1 hk), hr2⟩, wins := own_turn h.wins ht (fun k hk e => ?_), pages := h.pages.off ht (fun k hk => ⟨fun c t fr e => (typ k hk c t fr e).2.1, nomap k hk _ _ h.pages.map⟩), stamps := h.stamps.off ht (fun k hk => nomap k hk _ _ h.stamps.map), units := h.units.off ht (fun k hk => ⟨fun c t fr e => (typ k hk c t fr e).2.2.1, nomap k hk _ _ h.units.map, fun hl => ?_⟩) }
  · have := (hX k e).1
    omega
  · obtain ⟨c, hc, _⟩ := own_cells h.wins hk
    exact (typ _ e _ _ _ hc).2.2.2 rfl
  · obtain ⟨x, hx, hk2⟩ := hl
    obtain ⟨c, hc, _⟩ := own_cells (h.units.unit x hx).2 hk2
    exact (typ _ hk _ _ _ hc).2.2.2 rfl
/-- A record that restart made. -/
structure OutAt (w : World) (r : Rec) (bv av uv : Value) : Prop where
  before : bv = .slice none 0 0 ∧ r.before = ByteArray.empty
  units : uv = .slice none 0 0 ∧ r.units = []
  after : Content w av r.after
theorem OutAt.turn {X : Nat → Prop} {w w' : World} {r : Rec} {bv av uv : Value} (h : OutAt w r bv av uv) (ht : Turn X w w') (hX : Apart X w) : OutAt w' r bv av uv := ⟨h.before, h.units, h.after.turn ht hX⟩
theorem row_none (w : World) : RowAt w (.slice none 0 0) 0 [] := ⟨none, 0, rfl, Nat.le_refl _, by decide, fun h => absurd h (by decide)⟩
theorem OutAt.rec_ {w : World} {r : Rec} {bv av uv : Value} (h : OutAt w r bv av uv) : RecAt w r bv av uv := by
  obtain ⟨⟨rfl, e1⟩, ⟨rfl, e2⟩, h3⟩ := h
  refine ⟨?_, h3.1, ?_⟩
  · rw [e1]; exact row_none w
  · rw [e2]; exact row_none w
/-- Restart's memory: the units to end, and what is appended. -/
structure RestAt (w0 w : World) (wb tb ob : Nat) (S : WSh) (W : PW) (tv ov : Value) (T : List Opn) (O : List Rec) : Prop where
  at_ : WorldAt w0 w wb S W
  tcell : w.heap[tb]? = some (.cells #[tv] 34 (0, 0))
  trow : w.ownsRow 0 47 3 tv T.length (opnVals T)
  tnew : ∀ k, tv.ownBlock = some k → w0.heap.size ≤ k
  ocell : w.heap[ob]? = some (.cells #[ov] 22 (0, 0))
  orow : ∃ xs, w.ownsRow 0 36 10 ov O.length xs ∧ RecCells (OutAt w) O xs
  onew : ∀ k, ov.ownBlock = some k → w0.heap.size ≤ k ∧ S.rv.ownBlock ≠ some k
  tb0 : w0.heap.size ≤ tb
  ob0 : w0.heap.size ≤ ob
theorem RestAt.newer {w0 w w' : World} {wb tb ob : Nat} {S : WSh} {W : PW} {tv ov : Value} {T : List Opn} {O : List Rec} (h : RestAt w0 w wb tb ob S W tv ov T O) (hn : New w w') : RestAt w0 w' wb tb ob S W tv ov T O := by
  obtain ⟨xs, h1, h2⟩ := h.orow
  have ht : Turn (fun _ => False) w w' := Turn.of_new hn
  exact ⟨h.at_.newer hn, block_turn h.tcell ht id, own_old h.trow hn, h.tnew, block_turn h.ocell ht id, ⟨xs, own_old h1 hn, h2.imp fun r b a u k => k.turn ht (apart_none w)⟩, h.onew, h.tb0, h.ob0⟩
theorem typed_ne {w : World} {i j : Nat} {c d : Array Value} {t u : TypeId} {f g : Nat × Nat} (h : w.heap[i]? = some (.cells c t f)) (k : w.heap[j]? = some (.cells d u g)) (e : t ≠ u) : i ≠ j := fun h2 => e (kind_cells h (h2 ▸ k)).2
theorem rv_lt {w0 w : World} {wb : Nat} {S : WSh} {W : PW} (h : WorldAt w0 w wb S W) {k : Nat} (hk : S.rv.ownBlock = some k) : k < w.heap.size := by
  obtain ⟨xs, hr1, _⟩ := h.recs
  obtain ⟨c, hc, _⟩ := own_cells hr1 hk
  exact (Array.getElem?_eq_some_iff.1 hc).1
/-- A record appended to what restart returns. -/
theorem RestAt.outEnd {w0 w wx w8 : World} {wb tb ob : Nat} {S : WSh} {W : PW} {tv ov ov8 : Value} {T : List Opn} {O : List Rec} (h : RestAt w0 w wb tb ob S W tv ov T O) {r : Rec} {bv av uv : Value} (nx : New w wx) (hr : OutAt wx r bv av uv) {xs : List Value} (h1 : w.ownsRow 0 36 10 ov O.length xs) (h2 : RecCells (OutAt w) O xs)
    (own : w8.ownsRow 0 36 10 ov8 (O.length + 1) (xs ++ (recCells r bv av uv).toList)) (grow : wx.grownBy w8 ov.ownBlock) (blk : ov8.ownBlock = ov.ownBlock ∨ ov8.ownBlock = some wx.heap.size) :
    RestAt w0 (w8.setCell ⟨ob, 0, none⟩ ov8) wb tb ob S W tv ov8 T (O ++ [r]) := by
  have own36 : ∀ k, ov.ownBlock = some k → ∃ c, w.heap[k]? = some (.cells c 36 (0, 0)) := fun k hk => by
    obtain ⟨c, hc, _⟩ := own_cells h1 hk
    exact ⟨c, hc⟩
  have t8 : Turn (fun k => ov.ownBlock = some k) w w8 := (Turn.of_new nx).grown grow (fun k _ hk => hk)
  have t8x : Turn (fun k => ov.ownBlock = some k) wx w8 := (Turn.refl _ wx).grown grow (fun k _ hk => hk)
  have hob : ov.ownBlock ≠ some ob := fun e => by
    obtain ⟨c, hc⟩ := own36 _ e
    exact typed_ne hc h.ocell (by decide) rfl
  have hoblt : ob < w.heap.size := (Array.getElem?_eq_some_iff.1 h.ocell).1
  have b8 := block_turn h.ocell t8 hob
  have hob8 : ov8.ownBlock ≠ some ob := fun e => by
    rcases blk with k | k
    · exact hob (k ▸ e)
    · rw [k] at e
      injection e with e
      have := nx.size
      omega
  have t9 : Turn (· = ob) w8 (w8.setCell ⟨ob, 0, none⟩ ov8) := turn_cell w8 ob 0 _
  have t10 : Turn (fun k => k = ob ∨ ov.ownBlock = some k) w (w8.setCell ⟨ob, 0, none⟩ ov8) := (t8.mono fun k _ hk => .inr hk).trans (t9.mono fun k _ hk => .inl hk)
  have t10x : Turn (fun k => k = ob ∨ ov.ownBlock = some k) wx (w8.setCell ⟨ob, 0, none⟩ ov8) := (t8x.mono fun k _ hk => .inr hk).trans (t9.mono fun k _ hk => .inl hk)
  have hX : ∀ k, (k = ob ∨ ov.ownBlock = some k) → ∃ c t, w.heap[k]? = some (.cells c t (0, 0)) ∧ (t = 22 ∨ t = 36) := fun k hk => by
    rcases hk with rfl | hk
    · exact ⟨_, _, h.ocell, .inl rfl⟩
    · obtain ⟨c, hc⟩ := own36 _ hk
      exact ⟨c, 36, hc, .inr rfl⟩
  have hap : Apart (fun k => k = ob ∨ ov.ownBlock = some k) w := fun k c fr hk e => by
    obtain ⟨c', t', e', h'⟩ := hX k hk
    have := (kind_cells e e').2
    rcases h' with h' | h' <;> (rw [h'] at this; exact absurd this (by decide))
  have hapx : Apart (fun k => k = ob ∨ ov.ownBlock = some k) wx := fun k c fr hk e => by
    obtain ⟨c', t', e', h'⟩ := hX k hk
    have e2 := (Below.block nx k (Array.getElem?_eq_some_iff.1 e').1).trans e'
    have := (kind_cells e e2).2
    rcases h' with h' | h' <;> (rw [h'] at this; exact absurd this (by decide))
  have e9 := heap_setCell_same w8 ob 0 _ 22 ov8 b8
  refine ⟨h.at_.besides t10 (fun k hk => ?_), block_turn h.tcell t10 (fun e => ?_), own_turn h.trow t10 (fun k hk e => ?_), h.tnew, by rw [e9]; rfl, ⟨_, ?_, (h2.imp fun r b a u k => k.turn t10 hap).snoc (hr.turn t10x hapx)⟩, fun k hk => ?_, h.tb0, h.ob0⟩
  · obtain ⟨c, t, e, ht⟩ := hX k hk
    refine ⟨?_, ?_, c, t, (0, 0), e, ?_⟩
    · rcases hk with rfl | hk
      · exact h.ob0
      · exact (h.onew k hk).1
    · rcases hk with rfl | hk
      · intro e2
        obtain ⟨xs', hr1, _⟩ := h.at_.recs
        obtain ⟨c', hc', _⟩ := own_cells hr1 e2
        exact typed_ne hc' h.ocell (by decide) rfl
      · exact (h.onew k hk).2
    · rcases ht with rfl | rfl <;> decide
  · obtain ⟨c, t, e2, ht⟩ := hX tb e
    have := (kind_cells h.tcell e2).2
    rcases ht with rfl | rfl <;> exact absurd this (by decide)
  · obtain ⟨c, t, e2, ht⟩ := hX k e
    obtain ⟨c', hc', _⟩ := own_cells h.trow hk
    have := (kind_cells hc' e2).2
    rcases ht with rfl | rfl <;> exact absurd this (by decide)
  · rw [List.length_append, List.length_singleton]
    exact own_turn own t9 (fun k hk e => hob8 (e ▸ hk))
  · rcases blk with k1 | k1
    · exact h.onew k (k1 ▸ hk)
    · rw [k1] at hk
      injection hk with hk
      have h3 := h.at_.new.size
      have h4 := nx.size
      refine ⟨by omega, fun e => ?_⟩
      have := rv_lt h.at_ e
      omega
theorem oversOf_take {T : List Opn} {k : Nat} (hk : k < T.length) : oversOf (T.take (k + 1)) = oversOf (T.take k) ++ if T[k].next = 0 then [overRec T[k].unit] else [] := by
  unfold oversOf
  rw [take_snocO hk, List.filter_append, List.map_append]
  congr 1
  by_cases h : T[k].next = 0
  · simp [zeroO, h]
  · simp [zeroO, h]
theorem oversOf_len (T : List Opn) : (oversOf T).length ≤ T.length := by
  unfold oversOf
  rw [List.length_map]
  exact List.length_filter_le _ _
theorem looks37 : Looks 37 zeroO := fun o w => by
  go_enter Try.func37, Try.ntmps37
  go_wp2
  go_ret
  exact ⟨rfl, (New.refl w).alloc _ _⟩
theorem looks35 : Looks 35 (fun o => !o.ready.toList.isEmpty) := fun o w => by
  go_enter Try.func35, Try.ntmps35
  go_wp2
  go_ret
  exact ⟨rfl, (New.refl w).alloc _ _⟩
end Go.Proofs.Ytmchbciofdokfaa
