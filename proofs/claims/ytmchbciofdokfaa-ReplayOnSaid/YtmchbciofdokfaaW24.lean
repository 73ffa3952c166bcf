/- Restart: the closure that ends units, walked. -/
import Derived.Test.YtmchbciofdokfaaW23
namespace Go.Proofs.Ytmchbciofdokfaa
open Go.RowKit
open Go.ChangeMaps (setBlock)
set_option linter.unusedSimpArgs false
set_option linter.unusedVariables false

/-- The units to end are others. -/
theorem RestAt.todoEnd {w0 w w5 : World} {wb tb ob : Nat} {S : WSh} {W : PW} {tv ov tv5 : Value} {T T5 : List Opn} {O : List Rec} (h : RestAt w0 w wb tb ob S W tv ov T O) (ht : Turn (fun k => tv.ownBlock = some k) w w5)
    (hrow : w5.ownsRow 0 47 3 tv5 T5.length (opnVals T5)) (hblk : tv5.ownBlock = tv.ownBlock) : RestAt w0 (w5.setCell ⟨tb, 0, none⟩ tv5) wb tb ob S W tv5 ov T5 O := by
  have own47 : ∀ k, tv.ownBlock = some k → ∃ c, w.heap[k]? = some (.cells c 47 (0, 0)) := fun k hk => by
    obtain ⟨c, hc, _⟩ := own_cells h.trow hk
    exact ⟨c, hc⟩
  have htb : tv.ownBlock ≠ some tb := fun e => by
    obtain ⟨c, hc⟩ := own47 _ e
    exact typed_ne hc h.tcell (by decide) rfl
  have b5 := block_turn h.tcell ht htb
  have t9 : Turn (· = tb) w5 (w5.setCell ⟨tb, 0, none⟩ tv5) := turn_cell w5 tb 0 _
  have t10 : Turn (fun k => k = tb ∨ tv.ownBlock = some k) w (w5.setCell ⟨tb, 0, none⟩ tv5) := (ht.mono fun k _ hk => .inr hk).trans (t9.mono fun k _ hk => .inl hk)
  have hX : ∀ k, (k = tb ∨ tv.ownBlock = some k) → ∃ c t, w.heap[k]? = some (.cells c t (0, 0)) ∧ (t = 34 ∨ t = 47) := fun k hk => by
    rcases hk with rfl | hk
    · exact ⟨_, _, h.tcell, .inl rfl⟩
    · obtain ⟨c, hc⟩ := own47 _ hk
      exact ⟨c, 47, hc, .inr rfl⟩
  have hap : Apart (fun k => k = tb ∨ tv.ownBlock = some k) w := fun k c fr hk e => by
    obtain ⟨c', t', e', h'⟩ := hX k hk
    have := (kind_cells e e').2
    rcases h' with h' | h' <;> (rw [h'] at this; exact absurd this (by decide))
  obtain ⟨xs, h1, h2⟩ := h.orow
  have e9 := heap_setCell_same w5 tb 0 _ 34 tv5 b5
  refine ⟨h.at_.besides t10 (fun k hk => ?_), by rw [e9]; rfl, own_turn hrow t9 (fun k hk e => htb (hblk ▸ e ▸ hk)), fun k hk => h.tnew k (hblk ▸ hk), block_turn h.ocell t10 (fun e => ?_), ⟨xs, own_turn h1 t10 (fun k hk e => ?_), h2.imp fun r b a u k => k.turn t10 hap⟩, h.onew, h.tb0, h.ob0⟩
  · obtain ⟨c, t, e, ht⟩ := hX k hk
    refine ⟨?_, ?_, c, t, (0, 0), e, ?_⟩
    · rcases hk with rfl | hk
      · exact h.tb0
      · exact h.tnew k hk
    · intro e2
      obtain ⟨xs', hr1, _⟩ := h.at_.recs
      obtain ⟨c', hc', _⟩ := own_cells hr1 e2
      have := (kind_cells hc' e).2
      rcases ht with rfl | rfl <;> exact absurd this (by decide)
    · rcases ht with rfl | rfl <;> decide
  · obtain ⟨c, t, e2, ht⟩ := hX ob e
    have := (kind_cells h.ocell e2).2
    rcases ht with rfl | rfl <;> exact absurd this (by decide)
  · obtain ⟨c, t, e2, ht⟩ := hX k e
    obtain ⟨c', hc', _⟩ := own_cells h1 hk
    have := (kind_cells hc' e2).2
    rcases ht with rfl | rfl <;> exact absurd this (by decide)
def EndIs (w0 : World) (wb tb ob : Nat) (S : WSh) (W : PW) (T : List Opn) (O : List Rec) (e : Ending) (w' : World) : Prop :=
  e = .returned (.tuple #[]) ∧ ∃ tv ov, RestAt w0 w' wb tb ob S W tv ov (restO T) (O ++ oversOf T)
theorem over_out (w : World) (n : Int) : OutAt w (overRec n) (.slice none 0 0) (.slice none 0 0) (.slice none 0 0) := ⟨⟨rfl, rfl⟩, ⟨rfl, rfl⟩, Content.nil w⟩
set_option maxRecDepth 100000 in
set_option maxHeartbeats 4000000 in
theorem end_any (w0 w : World) (wb tb ob : Nat) (S : WSh) (W : PW) (tv ov : Value) (T : List Opn) (O : List Rec) (h : RestAt w0 w wb tb ob S W tv ov T O) (hT : T.length ≤ 1000) (hO : O.length ≤ 500000) :
    Calls Try.prog 36 #[.pointer (some ⟨tb, 0, none⟩), .pointer (some ⟨ob, 0, none⟩)] w (EndIs w0 wb tb ob S W T O) := by
  obtain ⟨pt, ct, rfl⟩ := own_len h.trow
  have H := hid h
  have HT := hid hT
  have HO := hid hO
  have tc : w.cell? ⟨tb, 0, none⟩ = some (.slice pt T.length ct) := cells_of h.tcell 0
  clear h
  go_enter Try.func36, Try.ntmps36
  go_wp2_with fail
  go_loopw [3, 6] (fun _ i wr => ∃ k : Nat, k ≤ T.length ∧ i = .int .i64 k ∧ Hid (∃ ov', RestAt w0 wr wb tb ob S W (.slice pt T.length ct) ov' T (O ++ oversOf (T.take k)))) (fun _ i _ => T.length - (intOf i).toNat)
  case atStart => exact ⟨0, Nat.zero_le _, rfl, hid ⟨ov, by rw [List.take_zero]; simpa [oversOf] using H.out⟩⟩
  case round =>
    clear H
    obtain ⟨k, hk, rfl, hR0⟩ := hrel
    obtain ⟨ov', hR⟩ := hR0.out
    have HR := hid hR
    clear hR0 hR tc
    by_cases hlt : k < T.length
    · obtain ⟨g, cap, cur, e, -⟩ := own_form HR.out.trow (by omega)
      injection e with e1 e8 e9
      subst e1 e9
      clear e8
      obtain ⟨x0, x1, x2⟩ := opnVals_at T k hlt
      have hlen := opnVals_len T
      have d0 := (own_cell HR.out.trow (k * 3) (by omega)).trans x0
      have d1 := (own_cell HR.out.trow (k * 3 + 1) (by omega)).trans x1
      have d2 := (own_cell HR.out.trow (k * 3 + 2) (by omega)).trans x2
      have HTK : Hid (O ++ oversOf (T.take (k + 1)) = (O ++ oversOf (T.take k)) ++ if T[k].next = 0 then [overRec T[k].unit] else []) := hid (by rw [oversOf_take hlt, List.append_assoc])
      have HOL : Hid ((O ++ oversOf (T.take k)).length ≤ 1000000) := hid (by
        rw [List.length_append]
        have e1 := oversOf_len (T.take k)
        rw [List.length_take] at e1
        have := HT.out
        have := HO.out
        omega)
      generalize O ++ oversOf (T.take k) = OO at *
      obtain ⟨xs, h1, h2⟩ := HR.out.orow
      obtain ⟨po, co, rfl⟩ := own_len h1
      have H1 := hid h1
      have H2 := hid h2
      have oc : wr.cell? ⟨ob, 0, none⟩ = some (.slice po OO.length co) := cells_of HR.out.ocell 0
      have hoblt : ob < wr.heap.size := (Array.getElem?_eq_some_iff.1 HR.out.ocell).1
      have HFO := hid (frozen_of HR.out.ocell 0)
      have HOB : Hid ((Value.slice po OO.length co).ownBlock ≠ some ob) := hid (fun e => by
        obtain ⟨c, hc, _⟩ := own_cells h1 e
        exact typed_ne hc HR.out.ocell (by decide) rfl)
      clear x0 x1 x2 hlen h1 h2
      generalize T[k] = x at *
      by_cases hz : x.next = 0
      case neg =>
        have tz : (x.next == 0) = false := by simpa using hz
        have HTK2 : Hid (O ++ oversOf (T.take (k + 1)) = OO) := hid (by rw [HTK.out, if_neg hz, List.append_nil])
        have N1 := hid (Below.alloc (New.refl wr) (Nat.le_refl _) (.cells #[.int .i64 x.unit, .int .i64 x.next, .string x.ready] 47))
        clear hz
        go_wp2
        go_roundw
        case rel => exact ⟨k + 1, by omega, by go_num, hid ⟨_, by rw [HTK2.out]; exact HR.out.newer N1.out⟩⟩
        case measure => simp [intOf]; omega
      have tz : (x.next == 0) = true := by simpa using hz
      have HTK2 : Hid (O ++ oversOf (T.take (k + 1)) = OO ++ [overRec x.unit]) := hid (by rw [HTK.out, if_pos hz])
      have N1 := hid (Below.alloc (Below.alloc (New.refl wr) (Nat.le_refl _) (.cells #[.int .i64 x.unit, .int .i64 x.next, .string x.ready] 47)) (by simp) (.cells (recCells (overRec x.unit) (.slice none 0 0) (.slice none 0 0) (.slice none 0 0)) 36))
      have HB2 : Hid (((wr.alloc (.cells #[.int .i64 x.unit, .int .i64 x.next, .string x.ready] 47)).alloc (.cells (recCells (overRec x.unit) (.slice none 0 0) (.slice none 0 0) (.slice none 0 0)) 36)).heap[wr.heap.size + 1]? = some (.cells (recCells (overRec x.unit) (.slice none 0 0) (.slice none 0 0) (.slice none 0 0)) 36 (0, 0))) := hid (by
        have := alloc_block (wr.alloc (.cells #[.int .i64 x.unit, .int .i64 x.next, .string x.ready] 47)) (.cells (recCells (overRec x.unit) (.slice none 0 0) (.slice none 0 0) (.slice none 0 0)) 36)
        simpa using this)
      have E1 := hid (((bcell N1.out).1 ob 0 hoblt).trans oc)
      have F1 := hid (((bcell N1.out).2 ob 0 hoblt).trans HFO.out)
      have L1 := hid (Nat.lt_of_lt_of_le hoblt N1.out.size)
      clear hz
      go_wp2_with (at_builtin; refine app_rec rfl _ _ rfl (.slice po OO.length co) OO.length xs rfl 0 (own_old H1.out N1.out) (Nat.zero_le _) (wr.heap.size + 1) (overRec x.unit) none none none 0 0 0 0 0 0 rfl (cells_of HB2.out) HOL.out ?_)
      intro v9 w9 own9 grow9 blk9
      obtain ⟨p9, k9, rfl⟩ := own_len own9
      have c9 := (grow9.cell_far ⟨ob, 0, none⟩ L1.out (fun e => HOB.out e.symm)).trans E1.out
      have z9 := (grow9.frozen_far ⟨ob, 0, none⟩ L1.out (fun e => HOB.out e.symm)).trans F1.out
      have HE := hid (HR.out.outEnd N1.out (over_out _ _) H1.out H2.out own9 grow9 (by rw [World.size_alloc, World.size_alloc]; exact blk9))
      clear own9 grow9 blk9
      go_wp2
      go_roundw
      case rel => exact ⟨k + 1, by omega, by go_num, hid ⟨_, by rw [HTK2.out]; exact HE.out⟩⟩
      case measure => simp [intOf]; omega
    · obtain rfl : k = T.length := by omega
      have HTA : Hid (T.take T.length = T) := hid List.take_length
      have tc : wr.cell? ⟨tb, 0, none⟩ = some (.slice pt T.length ct) := cells_of HR.out.tcell 0
      go_wp2_with fail
      refine (del_opn37 zeroO looks37 _ T wr HR.out.trow (by have := HT.out; omega)).mono ?_
      rintro e w5 ⟨p5, c5, rfl, hrow5, hblk5, ht5⟩
      have HTB : Hid ((Value.slice pt T.length ct).ownBlock ≠ some tb) := hid (fun e => by
        obtain ⟨c, hc, _⟩ := own_cells HR.out.trow e
        exact typed_ne hc HR.out.tcell (by decide) rfl)
      have b5 := block_turn HR.out.tcell ht5 HTB.out
      have tc5 : w5.cell? ⟨tb, 0, none⟩ = some (.slice pt T.length ct) := cells_of b5 0
      have tz5 : w5.frozen? ⟨tb, 0, none⟩ = false := frozen_of b5 0
      have HE := hid (HR.out.todoEnd ht5 hrow5 hblk5)
      clear hrow5 hblk5 ht5 b5
      go_wp2
      go_end0
      exact ⟨rfl, _, _, by rw [HTA.out] at HE; exact HE.out⟩
end Go.Proofs.Ytmchbciofdokfaa
