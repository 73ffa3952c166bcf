/- Restart: what lies in memory while it runs; the closure that ends units. Restart: the closure that ends units, walked. Restart: what its steps keep, and that they end. Restart: how its memory stands while single cells turn. -/
import Derived.Test.YtmchbciofdokfaaW21
import Derived.Test.YtmchbciofdokfaaW22
import Derived.Test.YtmchbciofdokfaaW13L
namespace Go.Proofs.Ytmchbciofdokfaa
open Go.RowKit
open Go.ChangeMaps (setBlock)
set_option linter.unusedSimpArgs false
set_option linter.unusedVariables false

theorem WorldAt.besides {w0 w w' : World} {wb : Nat} {S : WSh} {W : PW} {X : Nat → Prop} (h : WorldAt w0 w wb S W) (ht : Turn X w w') (hX : ∀ k, X k → w0.heap.size ≤ k ∧ S.rv.ownBlock ≠ some k ∧ (∃ c t fr, w.heap[k]? = some (.cells c t fr) ∧ t ≠ 64 ∧ t ≠ 5 ∧ t ≠ 66 ∧ t ≠ 3)) : WorldAt w0 w' wb S W := by
  obtain ⟨xs, hr1, hr2⟩ := h.recs
  have typ : ∀ k, X k → ∀ c t fr, w.heap[k]? = some (.cells c t fr) → t ≠ 64 ∧ t ≠ 5 ∧ t ≠ 66 ∧ t ≠ 3 := fun k hk c t fr e => by
    obtain ⟨c', t', fr', e', h'⟩ := (hX k hk).2.2
    rw [(kind_cells e e').2]
    exact h'
  have nomap : ∀ k, X k → ∀ b l, IMap w b l → k ≠ b := fun k hk b l hm e => by
    obtain ⟨c', t', fr', e', h'⟩ := (hX k hk).2.2
    exact imap_not hm _ _ _ (e ▸ e')
  refine { h with new := New.turn h.new ht (fun k hk e => ?_), base := block_turn h.base ht (fun e => (typ _ e _ _ _ h.base).1 rfl), recs := ⟨xs, own_turn hr1 ht (fun k hk e => (hX _ e).2.1 hk), hr2⟩, wins := own_turn h.wins ht (fun k hk e => ?_), pages := h.pages.off ht (fun k hk => ⟨fun c t fr e => (typ k hk c t fr e).2.1, nomap k hk _ _ h.pages.map⟩), stamps := h.stamps.off ht (fun k hk => nomap k hk _ _ h.stamps.map), units := h.units.off ht (fun k hk => ⟨fun c t fr e => (typ k hk c t fr e).2.2.1, nomap k hk _ _ h.units.map, fun hl => ?_⟩) }
  · have := (hX k e).1
    omega
  · obtain ⟨c, hc, _⟩ := own_cells h.wins hk
    exact (typ _ e _ _ _ hc).2.2.2 rfl
  · obtain ⟨x, hx, hk2⟩ := hl
    obtain ⟨c, hc, _⟩ := own_cells (h.units.unit x hx).2 hk2
    exact (typ _ hk _ _ _ hc).2.2.2 rfl
/-- A record that restart made. -/
structure OutAt (w : World) (r : Rec) (bv av uv : Value) : Prop where
  before : bv = .slice none 0 0 ∧ r.before = ByteArray.empty
  units : uv = .slice none 0 0 ∧ r.units = []
  after : Content w av r.after
theorem OutAt.turn {X : Nat → Prop} {w w' : World} {r : Rec} {bv av uv : Value} (h : OutAt w r bv av uv) (ht : Turn X w w') (hX : Apart X w) : OutAt w' r bv av uv := ⟨h.before, h.units, h.after.turn ht hX⟩
theorem row_none (w : World) : RowAt w (.slice none 0 0) 0 [] := ⟨none, 0, rfl, Nat.le_refl _, by decide, fun h => absurd h (by decide)⟩
theorem OutAt.rec_ {w : World} {r : Rec} {bv av uv : Value} (h : OutAt w r bv av uv) : RecAt w r bv av uv := by
  obtain ⟨⟨rfl, e1⟩, ⟨rfl, e2⟩, h3⟩ := h
  refine ⟨?_, h3.1, ?_⟩
  · rw [e1]; exact row_none w
  · rw [e2]; exact row_none w
/-- Restart's memory: the units to end, and what is appended. -/
structure RestAt (w0 w : World) (wb tb ob : Nat) (S : WSh) (W : PW) (tv ov : Value) (T : List Opn) (O : List Rec) : Prop where
  at_ : WorldAt w0 w wb S W
  tcell : w.heap[tb]? = some (.cells #[tv] 34 (0, 0))
  trow : w.ownsRow 0 47 3 tv T.length (opnVals T)
  tnew : ∀ k, tv.ownBlock = some k → w0.heap.size ≤ k
  ocell : w.heap[ob]? = some (.cells #[ov] 22 (0, 0))
  orow : ∃ xs, w.ownsRow 0 36 10 ov O.length xs ∧ RecCells (OutAt w) O xs
  onew : ∀ k, ov.ownBlock = some k → w0.heap.size ≤ k ∧ S.rv.ownBlock ≠ some k
  tb0 : w0.heap.size ≤ tb
  ob0 : w0.heap.size ≤ ob
theorem RestAt.newer {w0 w w' : World} {wb tb ob : Nat} {S : WSh} {W : PW} {tv ov : Value} {T : List Opn} {O : List Rec} (h : RestAt w0 w wb tb ob S W tv ov T O) (hn : New w w') : RestAt w0 w' wb tb ob S W tv ov T O := by
  obtain ⟨xs, h1, h2⟩ := h.orow
  have ht : Turn (fun _ => False) w w' := Turn.of_new hn
  exact ⟨h.at_.newer hn, block_turn h.tcell ht id, own_old h.trow hn, h.tnew, block_turn h.ocell ht id, ⟨xs, own_old h1 hn, h2.imp fun r b a u k => k.turn ht (apart_none w)⟩, h.onew, h.tb0, h.ob0⟩
theorem typed_ne {w : World} {i j : Nat} {c d : Array Value} {t u : TypeId} {f g : Nat × Nat} (h : w.heap[i]? = some (.cells c t f)) (k : w.heap[j]? = some (.cells d u g)) (e : t ≠ u) : i ≠ j := fun h2 => e (kind_cells h (h2 ▸ k)).2
theorem rv_lt {w0 w : World} {wb : Nat} {S : WSh} {W : PW} (h : WorldAt w0 w wb S W) {k : Nat} (hk : S.rv.ownBlock = some k) : k < w.heap.size := by
  obtain ⟨xs, hr1, _⟩ := h.recs
  obtain ⟨c, hc, _⟩ := own_cells hr1 hk
  exact (Array.getElem?_eq_some_iff.1 hc).1
/-- A record appended to what restart returns. -/
theorem RestAt.outEnd {w0 w wx w8 : World} {wb tb ob : Nat} {S : WSh} {W : PW} {tv ov ov8 : Value} {T : List Opn} {O : List Rec} (h : RestAt w0 w wb tb ob S W tv ov T O) {r : Rec} {bv av uv : Value} (nx : New w wx) (hr : OutAt wx r bv av uv) {xs : List Value} (h1 : w.ownsRow 0 36 10 ov O.length xs) (h2 : RecCells (OutAt w) O xs)
    (own : w8.ownsRow 0 36 10 ov8 (O.length + 1) (xs ++ (recCells r bv av uv).toList)) (grow : wx.grownBy w8 ov.ownBlock) (blk : ov8.ownBlock = ov.ownBlock ∨ ov8.ownBlock = some wx.heap.size) :
    RestAt w0 (w8.setCell ⟨ob, 0, none⟩ ov8) wb tb ob S W tv ov8 T (O ++ [r]) := by
  have own36 : ∀ k, ov.ownBlock = some k → ∃ c, w.heap[k]? = some (.cells c 36 (0, 0)) := fun k hk => by
    obtain ⟨c, hc, _⟩ := own_cells h1 hk
    exact ⟨c, hc⟩
  have t8 : Turn (fun k => ov.ownBlock = some k) w w8 := (Turn.of_new nx).grown grow (fun k _ hk => hk)
  have t8x : Turn (fun k => ov.ownBlock = some k) wx w8 := (Turn.refl _ wx).grown grow (fun k _ hk => hk)
  have hob : ov.ownBlock ≠ some ob := fun e => by
    obtain ⟨c, hc⟩ := own36 _ e
    exact typed_ne hc h.ocell (by decide) rfl
  have hoblt : ob < w.heap.size := (Array.getElem?_eq_some_iff.1 h.ocell).1
  have b8 := block_turn h.ocell t8 hob
  have hob8 : ov8.ownBlock ≠ some ob := fun e => by
    rcases blk with k | k
    · exact hob (k ▸ e)
    · rw [k] at e
      injection e with e
      have := nx.size
      omega
  have t9 : Turn (· = ob) w8 (w8.setCell ⟨ob, 0, none⟩ ov8) := turn_cell w8 ob 0 _
  have t10 : Turn (fun k => k = ob ∨ ov.ownBlock = some k) w (w8.setCell ⟨ob, 0, none⟩ ov8) := (t8.mono fun k _ hk => .inr hk).trans (t9.mono fun k _ hk => .inl hk)
  have t10x : Turn (fun k => k = ob ∨ ov.ownBlock = some k) wx (w8.setCell ⟨ob, 0, none⟩ ov8) := (t8x.mono fun k _ hk => .inr hk).trans (t9.mono fun k _ hk => .inl hk)
  have hX : ∀ k, (k = ob ∨ ov.ownBlock = some k) → ∃ c t, w.heap[k]? = some (.cells c t (0, 0)) ∧ (t = 22 ∨ t = 36) := fun k hk => by
    rcases hk with rfl | hk
    · exact ⟨_, _, h.ocell, .inl rfl⟩
    · obtain ⟨c, hc⟩ := own36 _ hk
      exact ⟨c, 36, hc, .inr rfl⟩
  have hap : Apart (fun k => k = ob ∨ ov.ownBlock = some k) w := fun k c fr hk e => by
    obtain ⟨c', t', e', h'⟩ := hX k hk
    have := (kind_cells e e').2
    rcases h' with h' | h' <;> (rw [h'] at this; exact absurd this (by decide))
  have hapx : Apart (fun k => k = ob ∨ ov.ownBlock = some k) wx := fun k c fr hk e => by
    obtain ⟨c', t', e', h'⟩ := hX k hk
    have e2 := (Below.block nx k (Array.getElem?_eq_some_iff.1 e').1).trans e'
    have := (kind_cells e e2).2
    rcases h' with h' | h' <;> (rw [h'] at this; exact absurd this (by decide))
  have e9 := heap_setCell_same w8 ob 0 _ 22 ov8 b8
  refine ⟨h.at_.besides t10 (fun k hk => ?_), block_turn h.tcell t10 (fun e => ?_), own_turn h.trow t10 (fun k hk e => ?_), h.tnew, by rw [e9]; rfl, ⟨_, ?_, (h2.imp fun r b a u k => k.turn t10 hap).snoc (hr.turn t10x hapx)⟩, fun k hk => ?_, h.tb0, h.ob0⟩
  · obtain ⟨c, t, e, ht⟩ := hX k hk
    refine ⟨?_, ?_, c, t, (0, 0), e, ?_⟩
    · rcases hk with rfl | hk
      · exact h.ob0
      · exact (h.onew k hk).1
    · rcases hk with rfl | hk
      · intro e2
        obtain ⟨xs', hr1, _⟩ := h.at_.recs
        obtain ⟨c', hc', _⟩ := own_cells hr1 e2
        exact typed_ne hc' h.ocell (by decide) rfl
      · exact (h.onew k hk).2
    · rcases ht with rfl | rfl <;> decide
  · obtain ⟨c, t, e2, ht⟩ := hX tb e
    have := (kind_cells h.tcell e2).2
    rcases ht with rfl | rfl <;> exact absurd this (by decide)
  · obtain ⟨c, t, e2, ht⟩ := hX k e
    obtain ⟨c', hc', _⟩ := own_cells h.trow hk
    have := (kind_cells hc' e2).2
    rcases ht with rfl | rfl <;> exact absurd this (by decide)
  · rw [List.length_append, List.length_singleton]
    exact own_turn own t9 (fun k hk e => hob8 (e ▸ hk))
  · rcases blk with k1 | k1
    · exact h.onew k (k1 ▸ hk)
    · rw [k1] at hk
      injection hk with hk
      have h3 := h.at_.new.size
      have h4 := nx.size
      refine ⟨by omega, fun e => ?_⟩
      have := rv_lt h.at_ e
      omega
theorem oversOf_take {T : List Opn} {k : Nat} (hk : k < T.length) : oversOf (T.take (k + 1)) = oversOf (T.take k) ++ if T[k].next = 0 then [overRec T[k].unit] else [] := by
  unfold oversOf
  rw [take_snocO hk, List.filter_append, List.map_append]
  congr 1
  by_cases h : T[k].next = 0
  · simp [zeroO, h]
  · simp [zeroO, h]
theorem oversOf_len (T : List Opn) : (oversOf T).length ≤ T.length := by
  unfold oversOf
  rw [List.length_map]
  exact List.length_filter_le _ _
theorem looks37 : Looks 37 zeroO := fun o w => by
  go_enter Try.func37, Try.ntmps37
  go_wp2
  go_ret
  exact ⟨rfl, (New.refl w).alloc _ _⟩
theorem looks35 : Looks 35 (fun o => !o.ready.toList.isEmpty) := fun o w => by
  go_enter Try.func35, Try.ntmps35
  go_wp2
  go_ret
  exact ⟨rfl, (New.refl w).alloc _ _⟩
end Go.Proofs.Ytmchbciofdokfaa

namespace Go.Proofs.Ytmchbciofdokfaa
open Go.RowKit
open Go.ChangeMaps (setBlock)
set_option linter.unusedSimpArgs false
set_option linter.unusedVariables false

/-- The units to end are others. -/
theorem RestAt.todoEnd {w0 w w5 : World} {wb tb ob : Nat} {S : WSh} {W : PW} {tv ov tv5 : Value} {T T5 : List Opn} {O : List Rec} (h : RestAt w0 w wb tb ob S W tv ov T O) (ht : Turn (fun k => tv.ownBlock = some k) w w5)
    (hrow : w5.ownsRow 0 47 3 tv5 T5.length (opnVals T5)) (hblk : tv5.ownBlock = tv.ownBlock) : RestAt w0 (w5.setCell ⟨tb, 0, none⟩ tv5) wb tb ob S W tv5 ov T5 O := by
  have own47 : ∀ k, tv.ownBlock = some k → ∃ c, w.heap[k]? = some (.cells c 47 (0, 0)) := fun k hk => by
    obtain ⟨c, hc, _⟩ := own_cells h.trow hk
    exact ⟨c, hc⟩
  have htb : tv.ownBlock ≠ some tb := fun e => by
    obtain ⟨c, hc⟩ := own47 _ e
    exact typed_ne hc h.tcell (by decide) rfl
  have b5 := block_turn h.tcell ht htb
  have t9 : Turn (· = tb) w5 (w5.setCell ⟨tb, 0, none⟩ tv5) := turn_cell w5 tb 0 _
  have t10 : Turn (fun k => k = tb ∨ tv.ownBlock = some k) w (w5.setCell ⟨tb, 0, none⟩ tv5) := (ht.mono fun k _ hk => .inr hk).trans (t9.mono fun k _ hk => .inl hk)
  have hX : ∀ k, (k = tb ∨ tv.ownBlock = some k) → ∃ c t, w.heap[k]? = some (.cells c t (0, 0)) ∧ (t = 34 ∨ t = 47) := fun k hk => by
    rcases hk with rfl | hk
    · exact ⟨_, _, h.tcell, .inl rfl⟩
    · obtain ⟨c, hc⟩ := own47 _ hk
      exact ⟨c, 47, hc, .inr rfl⟩
  have hap : Apart (fun k => k = tb ∨ tv.ownBlock = some k) w := fun k c fr hk e => by
    obtain ⟨c', t', e', h'⟩ := hX k hk
    have := (kind_cells e e').2
    rcases h' with h' | h' <;> (rw [h'] at this; exact absurd this (by decide))
  obtain ⟨xs, h1, h2⟩ := h.orow
  have e9 := heap_setCell_same w5 tb 0 _ 34 tv5 b5
  refine ⟨h.at_.besides t10 (fun k hk => ?_), by rw [e9]; rfl, own_turn hrow t9 (fun k hk e => htb (hblk ▸ e ▸ hk)), fun k hk => h.tnew k (hblk ▸ hk), block_turn h.ocell t10 (fun e => ?_), ⟨xs, own_turn h1 t10 (fun k hk e => ?_), h2.imp fun r b a u k => k.turn t10 hap⟩, h.onew, h.tb0, h.ob0⟩
  · obtain ⟨c, t, e, ht⟩ := hX k hk
    refine ⟨?_, ?_, c, t, (0, 0), e, ?_⟩
    · rcases hk with rfl | hk
      · exact h.tb0
      · exact h.tnew k hk
    · intro e2
      obtain ⟨xs', hr1, _⟩ := h.at_.recs
      obtain ⟨c', hc', _⟩ := own_cells hr1 e2
      have := (kind_cells hc' e).2
      rcases ht with rfl | rfl <;> exact absurd this (by decide)
    · rcases ht with rfl | rfl <;> decide
  · obtain ⟨c, t, e2, ht⟩ := hX ob e
    have := (kind_cells h.ocell e2).2
    rcases ht with rfl | rfl <;> exact absurd this (by decide)
  · obtain ⟨c, t, e2, ht⟩ := hX k e
    obtain ⟨c', hc', _⟩ := own_cells h1 hk
    have := (kind_cells hc' e2).2
    rcases ht with rfl | rfl <;> exact absurd this (by decide)
def EndIs (w0 : World) (wb tb ob : Nat) (S : WSh) (W : PW) (T : List Opn) (O : List Rec) (e : Ending) (w' : World) : Prop :=
  e = .returned (.tuple #[]) ∧ ∃ tv ov, RestAt w0 w' wb tb ob S W tv ov (restO T) (O ++ oversOf T)
theorem over_out (w : World) (n : Int) : OutAt w (overRec n) (.slice none 0 0) (.slice none 0 0) (.slice none 0 0) := ⟨⟨rfl, rfl⟩, ⟨rfl, rfl⟩, Content.nil w⟩
set_option maxRecDepth 100000 in
set_option maxHeartbeats 4000000 in
theorem end_any (w0 w : World) (wb tb ob : Nat) (S : WSh) (W : PW) (tv ov : Value) (T : List Opn) (O : List Rec) (h : RestAt w0 w wb tb ob S W tv ov T O) (hT : T.length ≤ 1000) (hO : O.length ≤ 500000) :
    Calls Try.prog 36 #[.pointer (some ⟨tb, 0, none⟩), .pointer (some ⟨ob, 0, none⟩)] w (EndIs w0 wb tb ob S W T O) := by
  obtain ⟨pt, ct, rfl⟩ := own_len h.trow
  have H := hid h
  have HT := hid hT
  have HO := hid hO
  have tc : w.cell? ⟨tb, 0, none⟩ = some (.slice pt T.length ct) := cells_of h.tcell 0
  clear h
  go_enter Try.func36, Try.ntmps36
  go_wp2_with fail
  go_loopw [3, 6] (fun _ i wr => ∃ k : Nat, k ≤ T.length ∧ i = .int .i64 k ∧ Hid (∃ ov', RestAt w0 wr wb tb ob S W (.slice pt T.length ct) ov' T (O ++ oversOf (T.take k)))) (fun _ i _ => T.length - (intOf i).toNat)
  case atStart => exact ⟨0, Nat.zero_le _, rfl, hid ⟨ov, by rw [List.take_zero]; simpa [oversOf] using H.out⟩⟩
  case round =>
    clear H
    obtain ⟨k, hk, rfl, hR0⟩ := hrel
    obtain ⟨ov', hR⟩ := hR0.out
    have HR := hid hR
    clear hR0 hR tc
    by_cases hlt : k < T.length
    · obtain ⟨g, cap, cur, e, -⟩ := own_form HR.out.trow (by omega)
      injection e with e1 e8 e9
      subst e1 e9
      clear e8
      obtain ⟨x0, x1, x2⟩ := opnVals_at T k hlt
      have hlen := opnVals_len T
      have d0 := (own_cell HR.out.trow (k * 3) (by omega)).trans x0
      have d1 := (own_cell HR.out.trow (k * 3 + 1) (by omega)).trans x1
      have d2 := (own_cell HR.out.trow (k * 3 + 2) (by omega)).trans x2
      have HTK : Hid (O ++ oversOf (T.take (k + 1)) = (O ++ oversOf (T.take k)) ++ if T[k].next = 0 then [overRec T[k].unit] else []) := hid (by rw [oversOf_take hlt, List.append_assoc])
      have HOL : Hid ((O ++ oversOf (T.take k)).length ≤ 1000000) := hid (by
        rw [List.length_append]
        have e1 := oversOf_len (T.take k)
        rw [List.length_take] at e1
        have := HT.out
        have := HO.out
        omega)
      generalize O ++ oversOf (T.take k) = OO at *
      obtain ⟨xs, h1, h2⟩ := HR.out.orow
      obtain ⟨po, co, rfl⟩ := own_len h1
      have H1 := hid h1
      have H2 := hid h2
      have oc : wr.cell? ⟨ob, 0, none⟩ = some (.slice po OO.length co) := cells_of HR.out.ocell 0
      have hoblt : ob < wr.heap.size := (Array.getElem?_eq_some_iff.1 HR.out.ocell).1
      have HFO := hid (frozen_of HR.out.ocell 0)
      have HOB : Hid ((Value.slice po OO.length co).ownBlock ≠ some ob) := hid (fun e => by
        obtain ⟨c, hc, _⟩ := own_cells h1 e
        exact typed_ne hc HR.out.ocell (by decide) rfl)
      clear x0 x1 x2 hlen h1 h2
      generalize T[k] = x at *
      by_cases hz : x.next = 0
      case neg =>
        have tz : (x.next == 0) = false := by simpa using hz
        have HTK2 : Hid (O ++ oversOf (T.take (k + 1)) = OO) := hid (by rw [HTK.out, if_neg hz, List.append_nil])
        have N1 := hid (Below.alloc (New.refl wr) (Nat.le_refl _) (.cells #[.int .i64 x.unit, .int .i64 x.next, .string x.ready] 47))
        clear hz
        go_wp2
        go_roundw
        case rel => exact ⟨k + 1, by omega, by go_num, hid ⟨_, by rw [HTK2.out]; exact HR.out.newer N1.out⟩⟩
        case measure => simp [intOf]; omega
      have tz : (x.next == 0) = true := by simpa using hz
      have HTK2 : Hid (O ++ oversOf (T.take (k + 1)) = OO ++ [overRec x.unit]) := hid (by rw [HTK.out, if_pos hz])
      have N1 := hid (Below.alloc (Below.alloc (New.refl wr) (Nat.le_refl _) (.cells #[.int .i64 x.unit, .int .i64 x.next, .string x.ready] 47)) (by simp) (.cells (recCells (overRec x.unit) (.slice none 0 0) (.slice none 0 0) (.slice none 0 0)) 36))
      have HB2 : Hid (((wr.alloc (.cells #[.int .i64 x.unit, .int .i64 x.next, .string x.ready] 47)).alloc (.cells (recCells (overRec x.unit) (.slice none 0 0) (.slice none 0 0) (.slice none 0 0)) 36)).heap[wr.heap.size + 1]? = some (.cells (recCells (overRec x.unit) (.slice none 0 0) (.slice none 0 0) (.slice none 0 0)) 36 (0, 0))) := hid (by
        have := alloc_block (wr.alloc (.cells #[.int .i64 x.unit, .int .i64 x.next, .string x.ready] 47)) (.cells (recCells (overRec x.unit) (.slice none 0 0) (.slice none 0 0) (.slice none 0 0)) 36)
        simpa using this)
      have E1 := hid (((bcell N1.out).1 ob 0 hoblt).trans oc)
      have F1 := hid (((bcell N1.out).2 ob 0 hoblt).trans HFO.out)
      have L1 := hid (Nat.lt_of_lt_of_le hoblt N1.out.size)
      clear hz
      go_wp2_with (at_builtin; refine app_rec rfl _ _ rfl (.slice po OO.length co) OO.length xs rfl 0 (own_old H1.out N1.out) (Nat.zero_le _) (wr.heap.size + 1) (overRec x.unit) none none none 0 0 0 0 0 0 rfl (cells_of HB2.out) HOL.out ?_)
      intro v9 w9 own9 grow9 blk9
      obtain ⟨p9, k9, rfl⟩ := own_len own9
      have c9 := (grow9.cell_far ⟨ob, 0, none⟩ L1.out (fun e => HOB.out e.symm)).trans E1.out
      have z9 := (grow9.frozen_far ⟨ob, 0, none⟩ L1.out (fun e => HOB.out e.symm)).trans F1.out
      have HE := hid (HR.out.outEnd N1.out (over_out _ _) H1.out H2.out own9 grow9 (by rw [World.size_alloc, World.size_alloc]; exact blk9))
      clear own9 grow9 blk9
      go_wp2
      go_roundw
      case rel => exact ⟨k + 1, by omega, by go_num, hid ⟨_, by rw [HTK2.out]; exact HE.out⟩⟩
      case measure => simp [intOf]; omega
    · obtain rfl : k = T.length := by omega
      have HTA : Hid (T.take T.length = T) := hid List.take_length
      have tc : wr.cell? ⟨tb, 0, none⟩ = some (.slice pt T.length ct) := cells_of HR.out.tcell 0
      go_wp2_with fail
      refine (del_opn37 zeroO looks37 _ T wr HR.out.trow (by have := HT.out; omega)).mono ?_
      rintro e w5 ⟨p5, c5, rfl, hrow5, hblk5, ht5⟩
      have HTB : Hid ((Value.slice pt T.length ct).ownBlock ≠ some tb) := hid (fun e => by
        obtain ⟨c, hc, _⟩ := own_cells HR.out.trow e
        exact typed_ne hc HR.out.tcell (by decide) rfl)
      have b5 := block_turn HR.out.tcell ht5 HTB.out
      have tc5 : w5.cell? ⟨tb, 0, none⟩ = some (.slice pt T.length ct) := cells_of b5 0
      have tz5 : w5.frozen? ⟨tb, 0, none⟩ = false := frozen_of b5 0
      have HE := hid (HR.out.todoEnd ht5 hrow5 hblk5)
      clear hrow5 hblk5 ht5 b5
      go_wp2
      go_end0
      exact ⟨rfl, _, _, by rw [HTA.out] at HE; exact HE.out⟩
end Go.Proofs.Ytmchbciofdokfaa

namespace Go.Proofs.Ytmchbciofdokfaa
open Go.RowKit
set_option linter.unusedSimpArgs false
set_option linter.unusedVariables false

def tot (s : Todo) : Nat := (s.open_.map fun o => (s.left o.unit).length + 1).sum
structure TodoOk (n : Nat) (s : Todo) : Prop where
  nodup : (s.open_.map (·.unit)).Nodup
  next : ∀ x ∈ s.open_, x.next = (lastN (s.left x.unit) : Int)
  pos : ∀ m, ∀ k ∈ s.left m, 1 ≤ k ∧ k ≤ n
theorem lastN_mem {l : List Nat} (h : l ≠ []) : lastN l ∈ l := by
  unfold lastN
  rw [List.getLast?_eq_some_getLast h]
  exact List.getLast_mem h
theorem lastN_zero {l : List Nat} (h : ∀ k ∈ l, 1 ≤ k) (h0 : lastN l = 0) : l = [] := by
  apply Classical.byContradiction
  intro hne
  have := h _ (lastN_mem hne)
  omega
theorem map_congr_sum {T : List Opn} {f g : Opn → Nat} (h : ∀ x ∈ T, f x = g x) : (T.map f).sum = (T.map g).sum := by
  rw [List.map_congr_left h]
theorem step_ok {l : List Rec} {n : Nat} {s t : Todo} {r : Rec} (ok : TodoOk n s) (h : Step l s r t) : TodoOk n t ∧ tot s = tot t + 1 := by
  obtain ⟨h1, h2, h3⟩ := ok
  cases h with
  | @over T1 T2 o f a1 a2 =>
    have ho : f o.unit = [] := lastN_zero (fun k hk => (h3 _ k hk).1) (by
      have h := h2 o (show o ∈ T1 ++ o :: T2 by simp)
      simp only at h
      omega)
    refine ⟨⟨?_, fun x hx => h2 x ?_, h3⟩, ?_⟩
    · refine List.Nodup.sublist (List.Sublist.map _ ?_) h1
      exact List.Sublist.append_left (List.sublist_cons_self _ _) _
    · show x ∈ T1 ++ o :: T2
      have hx : x ∈ T1 ++ T2 := hx
      rw [List.mem_append] at hx ⊢
      exact hx.imp id (fun h => by simp [h])
    · simp [tot, ho]
      omega
  | @undo T1 T2 o f a1 a2 a3 =>
    have hne : f o.unit ≠ [] := fun e => a1 o (by simp) (by
      have h := h2 o (show o ∈ T1 ++ o :: T2 by simp)
      simp only [e] at h
      simpa [lastN] using h)
    have hn : ∀ x ∈ T1 ++ T2, x.unit ≠ o.unit := fun x hx e => by
      have h1 : ((T1 ++ o :: T2).map (·.unit)).Nodup := h1
      have hp : (o :: (T1 ++ T2)).Perm (T1 ++ o :: T2) := List.perm_middle.symm
      have h4 := (hp.map (·.unit)).nodup_iff.2 h1
      rw [List.map_cons, List.nodup_cons] at h4
      exact h4.1 (e ▸ List.mem_map_of_mem hx)
    have hpop : ∀ x ∈ T1 ++ T2, popL f o.unit x.unit = f x.unit := fun x hx => by unfold popL; rw [if_neg (hn x hx)]
    have hlen : (f o.unit).dropLast.length + 1 = (f o.unit).length := by
      rw [List.length_dropLast]
      have := List.length_pos_iff.2 hne
      omega
    refine ⟨⟨?_, fun x hx => ?_, fun m k hk => ?_⟩, ?_⟩
    · have e : (T1 ++ ⟨o.unit, (lastN (f o.unit).dropLast : Int), o.ready⟩ :: T2).map (·.unit) = (T1 ++ o :: T2).map (·.unit) := by simp
      show ((T1 ++ _ :: T2).map (·.unit)).Nodup
      rw [e]
      exact h1
    · have hx : x ∈ T1 ++ ⟨o.unit, (lastN (f o.unit).dropLast : Int), o.ready⟩ :: T2 := hx
      show x.next = (lastN (popL f o.unit x.unit) : Int)
      rw [List.mem_append, List.mem_cons] at hx
      rcases hx with hx | rfl | hx
      · rw [hpop x (List.mem_append.2 (.inl hx))]
        exact h2 x (show x ∈ T1 ++ o :: T2 by simp [hx])
      · simp [popL]
      · rw [hpop x (List.mem_append.2 (.inr hx))]
        exact h2 x (show x ∈ T1 ++ o :: T2 by simp [hx])
    · have hk : k ∈ popL f o.unit m := hk
      unfold popL at hk
      split at hk
      · exact h3 m k ((List.dropLast_sublist _).subset hk)
      · exact h3 m k hk
    · have e1 : (T1.map fun x => (popL f o.unit x.unit).length + 1) = T1.map fun x => (f x.unit).length + 1 := List.map_congr_left fun x hx => by rw [hpop x (by simp [hx])]
      have e2 : (T2.map fun x => (popL f o.unit x.unit).length + 1) = T2.map fun x => (f x.unit).length + 1 := List.map_congr_left fun x hx => by rw [hpop x (by simp [hx])]
      simp only [tot, List.map_append, List.map_cons, List.sum_append, List.sum_cons, e1, e2]
      have e3 : popL f o.unit o.unit = (f o.unit).dropLast := by simp [popL]
      rw [e3]
      omega
theorem steps_ok {l : List Rec} {n : Nat} {s t : Todo} {O : List Rec} (ok : TodoOk n s) (h : Steps l s O t) : TodoOk n t ∧ O.length + tot t = tot s := by
  induction h with
  | nil => exact ⟨ok, by simp⟩
  | snoc _ k ih =>
    obtain ⟨h1, h2⟩ := ih
    obtain ⟨h3, h4⟩ := step_ok h1 k
    refine ⟨h3, ?_⟩
    rw [List.length_append, List.length_singleton]
    omega
/-- Where restart begins. -/
def todo0 (W : PW) (o : List Opn) : Todo := ⟨o.filter fun x => decide (x.ready = ByteArray.empty), fun n => (W.unit n).left⟩
theorem todo0_ok {l : List Rec} {W : PW} {o : List Opn} (G : Good l W) (h : IsOpens W.unit o) : TodoOk l.length (todo0 W o) := by
  refine ⟨?_, fun x hx => ?_, fun m k hk => ?_⟩
  · have h1 : (o.map (·.unit)).Nodup := h.1.imp fun h => by omega
    exact List.Nodup.sublist (List.Sublist.map _ (List.filter_sublist)) h1
  · have := ((h.2 x).1 (List.mem_filter.1 hx).1).2
    rw [this]
    rfl
  · obtain ⟨h1, h2, _⟩ := G.left m k hk
    exact ⟨h1, h2⟩
/-- A world of which less is left. -/
def withLeft (W : PW) (f : Int → List Nat) : PW := { W with unit := fun n => ⟨(W.unit n).st, f n, (W.unit n).text, (W.unit n).seen⟩ }
theorem withLeft_self (W : PW) : withLeft W (fun n => (W.unit n).left) = W := rfl
/-- What restart returns. -/
def RestartIs (l : List Rec) (w : World) (e : Ending) (w' : World) : Prop :=
  (walkW l = none ∧ e = .returned (.tuple #[.slice none 0 0, .int .i64 50]) ∧ New w w') ∨
  (∃ W o O t v, walkW l = some W ∧ IsOpens W.unit o ∧ Steps l (todo0 W o) O t ∧ t.open_ = [] ∧ e = .returned (.tuple #[v, .int .i64 0]) ∧ Recs w' v O ∧ New w w')
theorem len_tot (s : Todo) : s.open_.length ≤ tot s := by
  have key : ∀ T : List Opn, T.length ≤ (T.map fun o => (s.left o.unit).length + 1).sum := fun T => by
    induction T with
    | nil => simp
    | cons a T ih =>
      rw [List.map_cons, List.sum_cons, List.length_cons]
      omega
  exact key _
theorem tot_bound {n : Nat} {s : Todo} (ok : TodoOk n s) (h1 : s.open_.length ≤ 500) (h2 : ∀ m, (s.left m).length ≤ 500) : tot s ≤ 250500 := by
  have key : ∀ T : List Opn, (T.map fun o => (s.left o.unit).length + 1).sum ≤ T.length * 501 := fun T => by
    induction T with
    | nil => simp
    | cons a T ih =>
      rw [List.map_cons, List.sum_cons, List.length_cons]
      have := h2 a.unit
      omega
  have := key s.open_
  unfold tot
  omega
end Go.Proofs.Ytmchbciofdokfaa

namespace Go.Proofs.Ytmchbciofdokfaa
open Go.RowKit
set_option linter.unusedSimpArgs false
set_option linter.unusedVariables false

/-- A boxed record of its own turns. -/
theorem RestAt.aside {w0 w w' : World} {wb tb ob : Nat} {S : WSh} {W : PW} {tv ov : Value} {T : List Opn} {O : List Rec} (h : RestAt w0 w wb tb ob S W tv ov T O) {k : Nat} {c : Array Value} (ht : Turn (· = k) w w') (hk : w0.heap.size ≤ k) (hb : w.heap[k]? = some (.cells c 36 (0, 0))) (h1 : S.rv.ownBlock ≠ some k) (h2 : ov.ownBlock ≠ some k) : RestAt w0 w' wb tb ob S W tv ov T O := by
  have ap : Apart (· = k) w := fun j c fr hj e => by
    rw [hj] at e
    exact absurd (kind_cells e hb).2 (by decide)
  obtain ⟨xs, o1, o2⟩ := h.orow
  refine ⟨h.at_.besides ht (fun j hj => ?_), block_turn h.tcell ht (fun e => typed_ne h.tcell hb (by decide) e), own_turn h.trow ht (fun j hj e => ?_), h.tnew, block_turn h.ocell ht (fun e => typed_ne h.ocell hb (by decide) e), ⟨xs, own_turn o1 ht (fun j hj e => h2 (e ▸ hj)), o2.imp fun r b a u q => q.turn ht ap⟩, h.onew, h.tb0, h.ob0⟩
  · rw [hj]
    exact ⟨hk, h1, c, 36, (0, 0), hb, by decide⟩
  · obtain ⟨c', hc, _⟩ := own_cells h.trow hj
    exact typed_ne hc hb (by decide) e
theorem opnVals_set {T : List Opn} {m : Nat} (hm : m < T.length) (n : Int) : opnVals (T.set m ⟨T[m].unit, n, T[m].ready⟩) = (opnVals T).set (m * 3 + 1) (.int .i64 n) := by
  induction T generalizing m with
  | nil => simp at hm
  | cons a T ih =>
    cases m with
    | zero => simp [opnVals]
    | succ m =>
      have := ih (m := m) (by simpa using hm)
      have e : (m + 1) * 3 + 1 = (m * 3 + 1) + 3 := by omega
      simp only [opnVals, List.set_cons_succ, List.flatMap_cons, List.getElem_cons_succ] at *
      rw [this, e]
      rfl
theorem own_set {w : World} {e : TypeId} {sz g n cap t : Nat} {xs : List Value} {v : Value} (h : w.ownsRow 0 e sz (.slice (some ⟨g, 0, none⟩) n cap) n xs) (ht : t < xs.length) : (w.setCell ⟨g, t, none⟩ v).ownsRow 0 e sz (.slice (some ⟨g, 0, none⟩) n cap) n (xs.set t v) := by
  have hl := h.1
  rcases h.2 with ⟨h0, _⟩ | ⟨g', cap', cur, h1, h0, h2, h3, h4, h5, h6⟩
  · cases h0
  · injection h1 with h1 _ h7
    injection h1 with h1
    injection h1 with h1
    subst h1 h7
    have hs := heap_setCell_same w g t _ e v h2
    refine ⟨by rw [List.length_set]; exact hl, .inr ⟨g, cap, _, rfl, Nat.zero_le _, hs, h3, h4, by simpa using h5, ?_⟩⟩
    rw [← h6]
    simp only [Array.toList_setIfInBounds, Array.set!_eq_setIfInBounds]
    rw [List.take_set]
/-- The next change of a unit that is left to end. -/
theorem RestAt.setNext {w0 w : World} {wb tb ob g cap m : Nat} {S : WSh} {W : PW} {ov : Value} {T : List Opn} {O : List Rec} (h : RestAt w0 w wb tb ob S W (.slice (some ⟨g, 0, none⟩) T.length cap) ov T O) (hm : m < T.length) (n : Int) :
    RestAt w0 (w.setCell ⟨g, m * 3 + 1, none⟩ (.int .i64 n)) wb tb ob S W (.slice (some ⟨g, 0, none⟩) T.length cap) ov (T.set m ⟨T[m].unit, n, T[m].ready⟩) O := by
  obtain ⟨c, hc, _⟩ := own_cells h.trow (k := g) rfl
  have ht := turn_cell w g (m * 3 + 1) (.int .i64 n)
  have ap : Apart (· = g) w := fun j c fr hj e => by
    rw [hj] at e
    exact absurd (kind_cells e hc).2 (by decide)
  obtain ⟨xs, o1, o2⟩ := h.orow
  refine ⟨h.at_.besides ht (fun j hj => ?_), block_turn h.tcell ht (fun e => typed_ne h.tcell hc (by decide) e), ?_, h.tnew, block_turn h.ocell ht (fun e => typed_ne h.ocell hc (by decide) e), ⟨xs, own_turn o1 ht (fun j hj e => ?_), o2.imp fun r b a u q => q.turn ht ap⟩, h.onew, h.tb0, h.ob0⟩
  · rw [hj]
    refine ⟨h.tnew g rfl, fun e => ?_, c, 47, (0, 0), hc, by decide⟩
    obtain ⟨xs', r1, _⟩ := h.at_.recs
    obtain ⟨c', hc', _⟩ := own_cells r1 e
    exact typed_ne hc' hc (by decide) rfl
  · rw [List.length_set, opnVals_set hm]
    exact own_set h.trow (by rw [opnVals_len]; omega)
  · obtain ⟨c', hc', _⟩ := own_cells o1 hj
    exact typed_ne hc' hc (by decide) e
theorem step_len {l : List Rec} {s t : Todo} {r : Rec} (h : Step l s r t) : t.open_.length ≤ s.open_.length := by
  cases h <;> simp
theorem steps_len {l : List Rec} {s t : Todo} {O : List Rec} (h : Steps l s O t) : t.open_.length ≤ s.open_.length := by
  induction h with
  | nil => exact Nat.le_refl _
  | snoc _ k ih => exact Nat.le_trans (step_len k) ih
theorem step_sub {l : List Rec} {s t : Todo} {r : Rec} (h : Step l s r t) : ∀ n, ∀ k ∈ t.left n, k ∈ s.left n := by
  cases h with
  | over => exact fun n k hk => hk
  | undo =>
    intro n k hk
    simp only [popL] at hk
    split at hk
    · exact (List.dropLast_sublist _).subset hk
    · exact hk
theorem steps_sub {l : List Rec} {s t : Todo} {O : List Rec} (h : Steps l s O t) : ∀ n, ∀ k ∈ t.left n, k ∈ s.left n := by
  induction h with
  | nil => exact fun n k hk => hk
  | snoc _ k ih => exact fun n j hj => ih n j (step_sub k n j hj)
theorem left_before {l : List Rec} {W : PW} (G : Good l W) {n : Int} {k : Nat} (h : k ∈ (W.unit n).left) : (recN l k).before.size ≤ 128 := by
  obtain ⟨_, _, h3, _, h5⟩ := G.left n k h
  have hb : (recN l k).before.size = (recN l k).after.size := by
    have h := h5
    unfold validB at h
    simp only [h3] at h
    simp at h
    exact h.2.1.1.1.2
  obtain ⟨_, _, _, _, _, hp⟩ := place_bounds (valid_place h5 (by rw [lays, h3]; rfl))
  omega
/-- Ten stores into a boxed record. -/
theorem ten_sets {w : World} {k : Nat} {zs : Array Value} (hz : w.heap[k]? = some (.cells zs 36 (0, 0))) (h10 : zs.size = 10) (v0 v1 v2 v3 v4 v5 v6 v7 v8 v9 : Value) :
    ((((((((((w.setCell ⟨k, 0, none⟩ v0).setCell ⟨k, 1, none⟩ v1).setCell ⟨k, 2, none⟩ v2).setCell ⟨k, 3, none⟩ v3).setCell ⟨k, 4, none⟩ v4).setCell ⟨k, 5, none⟩ v5).setCell ⟨k, 6, none⟩ v6).setCell ⟨k, 7, none⟩ v7).setCell ⟨k, 8, none⟩ v8).setCell ⟨k, 9, none⟩ v9).heap[k]? = some (.cells #[v0, v1, v2, v3, v4, v5, v6, v7, v8, v9] 36 (0, 0)) ∧
    Turn (· = k) w ((((((((((w.setCell ⟨k, 0, none⟩ v0).setCell ⟨k, 1, none⟩ v1).setCell ⟨k, 2, none⟩ v2).setCell ⟨k, 3, none⟩ v3).setCell ⟨k, 4, none⟩ v4).setCell ⟨k, 5, none⟩ v5).setCell ⟨k, 6, none⟩ v6).setCell ⟨k, 7, none⟩ v7).setCell ⟨k, 8, none⟩ v8).setCell ⟨k, 9, none⟩ v9) := by
  obtain ⟨ls⟩ := zs
  have h10 : ls.length = 10 := h10
  match ls, h10 with
  | [a0, a1, a2, a3, a4, a5, a6, a7, a8, a9], _ =>
    have e0 : (w.setCell ⟨k, 0, none⟩ v0).heap[k]? = some (.cells #[v0, a1, a2, a3, a4, a5, a6, a7, a8, a9] 36 (0, 0)) := heap_setCell_same w k 0 _ 36 v0 hz
    have e1 : ((w.setCell ⟨k, 0, none⟩ v0).setCell ⟨k, 1, none⟩ v1).heap[k]? = some (.cells #[v0, v1, a2, a3, a4, a5, a6, a7, a8, a9] 36 (0, 0)) := heap_setCell_same (w.setCell ⟨k, 0, none⟩ v0) k 1 _ 36 v1 e0
    have e2 : (((w.setCell ⟨k, 0, none⟩ v0).setCell ⟨k, 1, none⟩ v1).setCell ⟨k, 2, none⟩ v2).heap[k]? = some (.cells #[v0, v1, v2, a3, a4, a5, a6, a7, a8, a9] 36 (0, 0)) := heap_setCell_same ((w.setCell ⟨k, 0, none⟩ v0).setCell ⟨k, 1, none⟩ v1) k 2 _ 36 v2 e1
    have e3 : ((((w.setCell ⟨k, 0, none⟩ v0).setCell ⟨k, 1, none⟩ v1).setCell ⟨k, 2, none⟩ v2).setCell ⟨k, 3, none⟩ v3).heap[k]? = some (.cells #[v0, v1, v2, v3, a4, a5, a6, a7, a8, a9] 36 (0, 0)) := heap_setCell_same (((w.setCell ⟨k, 0, none⟩ v0).setCell ⟨k, 1, none⟩ v1).setCell ⟨k, 2, none⟩ v2) k 3 _ 36 v3 e2
    have e4 : (((((w.setCell ⟨k, 0, none⟩ v0).setCell ⟨k, 1, none⟩ v1).setCell ⟨k, 2, none⟩ v2).setCell ⟨k, 3, none⟩ v3).setCell ⟨k, 4, none⟩ v4).heap[k]? = some (.cells #[v0, v1, v2, v3, v4, a5, a6, a7, a8, a9] 36 (0, 0)) := heap_setCell_same ((((w.setCell ⟨k, 0, none⟩ v0).setCell ⟨k, 1, none⟩ v1).setCell ⟨k, 2, none⟩ v2).setCell ⟨k, 3, none⟩ v3) k 4 _ 36 v4 e3
    have e5 : ((((((w.setCell ⟨k, 0, none⟩ v0).setCell ⟨k, 1, none⟩ v1).setCell ⟨k, 2, none⟩ v2).setCell ⟨k, 3, none⟩ v3).setCell ⟨k, 4, none⟩ v4).setCell ⟨k, 5, none⟩ v5).heap[k]? = some (.cells #[v0, v1, v2, v3, v4, v5, a6, a7, a8, a9] 36 (0, 0)) := heap_setCell_same (((((w.setCell ⟨k, 0, none⟩ v0).setCell ⟨k, 1, none⟩ v1).setCell ⟨k, 2, none⟩ v2).setCell ⟨k, 3, none⟩ v3).setCell ⟨k, 4, none⟩ v4) k 5 _ 36 v5 e4
    have e6 : (((((((w.setCell ⟨k, 0, none⟩ v0).setCell ⟨k, 1, none⟩ v1).setCell ⟨k, 2, none⟩ v2).setCell ⟨k, 3, none⟩ v3).setCell ⟨k, 4, none⟩ v4).setCell ⟨k, 5, none⟩ v5).setCell ⟨k, 6, none⟩ v6).heap[k]? = some (.cells #[v0, v1, v2, v3, v4, v5, v6, a7, a8, a9] 36 (0, 0)) := heap_setCell_same ((((((w.setCell ⟨k, 0, none⟩ v0).setCell ⟨k, 1, none⟩ v1).setCell ⟨k, 2, none⟩ v2).setCell ⟨k, 3, none⟩ v3).setCell ⟨k, 4, none⟩ v4).setCell ⟨k, 5, none⟩ v5) k 6 _ 36 v6 e5
    have e7 : ((((((((w.setCell ⟨k, 0, none⟩ v0).setCell ⟨k, 1, none⟩ v1).setCell ⟨k, 2, none⟩ v2).setCell ⟨k, 3, none⟩ v3).setCell ⟨k, 4, none⟩ v4).setCell ⟨k, 5, none⟩ v5).setCell ⟨k, 6, none⟩ v6).setCell ⟨k, 7, none⟩ v7).heap[k]? = some (.cells #[v0, v1, v2, v3, v4, v5, v6, v7, a8, a9] 36 (0, 0)) := heap_setCell_same (((((((w.setCell ⟨k, 0, none⟩ v0).setCell ⟨k, 1, none⟩ v1).setCell ⟨k, 2, none⟩ v2).setCell ⟨k, 3, none⟩ v3).setCell ⟨k, 4, none⟩ v4).setCell ⟨k, 5, none⟩ v5).setCell ⟨k, 6, none⟩ v6) k 7 _ 36 v7 e6
    have e8 : (((((((((w.setCell ⟨k, 0, none⟩ v0).setCell ⟨k, 1, none⟩ v1).setCell ⟨k, 2, none⟩ v2).setCell ⟨k, 3, none⟩ v3).setCell ⟨k, 4, none⟩ v4).setCell ⟨k, 5, none⟩ v5).setCell ⟨k, 6, none⟩ v6).setCell ⟨k, 7, none⟩ v7).setCell ⟨k, 8, none⟩ v8).heap[k]? = some (.cells #[v0, v1, v2, v3, v4, v5, v6, v7, v8, a9] 36 (0, 0)) := heap_setCell_same ((((((((w.setCell ⟨k, 0, none⟩ v0).setCell ⟨k, 1, none⟩ v1).setCell ⟨k, 2, none⟩ v2).setCell ⟨k, 3, none⟩ v3).setCell ⟨k, 4, none⟩ v4).setCell ⟨k, 5, none⟩ v5).setCell ⟨k, 6, none⟩ v6).setCell ⟨k, 7, none⟩ v7) k 8 _ 36 v8 e7
    have e9 : ((((((((((w.setCell ⟨k, 0, none⟩ v0).setCell ⟨k, 1, none⟩ v1).setCell ⟨k, 2, none⟩ v2).setCell ⟨k, 3, none⟩ v3).setCell ⟨k, 4, none⟩ v4).setCell ⟨k, 5, none⟩ v5).setCell ⟨k, 6, none⟩ v6).setCell ⟨k, 7, none⟩ v7).setCell ⟨k, 8, none⟩ v8).setCell ⟨k, 9, none⟩ v9).heap[k]? = some (.cells #[v0, v1, v2, v3, v4, v5, v6, v7, v8, v9] 36 (0, 0)) := heap_setCell_same (((((((((w.setCell ⟨k, 0, none⟩ v0).setCell ⟨k, 1, none⟩ v1).setCell ⟨k, 2, none⟩ v2).setCell ⟨k, 3, none⟩ v3).setCell ⟨k, 4, none⟩ v4).setCell ⟨k, 5, none⟩ v5).setCell ⟨k, 6, none⟩ v6).setCell ⟨k, 7, none⟩ v7).setCell ⟨k, 8, none⟩ v8) k 9 _ 36 v9 e8
    refine ⟨e9, ?_⟩
    exact (((((((((turn_cell w k 0 v0).trans (turn_cell _ k 1 v1)).trans (turn_cell _ k 2 v2)).trans (turn_cell _ k 3 v3)).trans (turn_cell _ k 4 v4)).trans (turn_cell _ k 5 v5)).trans (turn_cell _ k 6 v6)).trans (turn_cell _ k 7 v7)).trans (turn_cell _ k 8 v8)).trans (turn_cell _ k 9 v9)
end Go.Proofs.Ytmchbciofdokfaa
