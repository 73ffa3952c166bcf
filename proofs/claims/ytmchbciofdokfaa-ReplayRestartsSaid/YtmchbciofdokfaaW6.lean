/- meets: whether a change meets one of another unit that is open. -/
import Derived.Test.YtmchbciofdokfaaW5
namespace Go.Proofs.Ytmchbciofdokfaa
open Go.RowKit
open Go.ChangeMaps (setBlock)
set_option linter.unusedSimpArgs false
set_option linter.unusedVariables false

theorem delL_length {l : List (Int × Value)} {n : Int} {v : Value} (h : (n, v) ∈ l) : (delL l n).length < l.length := by
  unfold delL
  have h1 : (l.filter fun p => !(p.1 == n)).length ≤ l.length := List.length_filter_le _ _
  rcases Nat.lt_or_ge (l.filter fun p => !(p.1 == n)).length l.length with h2 | h2
  · exact h2
  · have := List.length_filter_eq_length_iff.1 (Nat.le_antisymm h1 h2) _ h
    simp at this
theorem IRange.left_eq {w : World} {r b : Nat} {l todo : List (Int × Value)} (h : IRange w r b l todo) : w.rangeLeft b r = todo.length := by
  obtain ⟨es, clock, since, seen, c0, h1, h2, h3, h4, h5, h6, h7, h8⟩ := h
  simp only [World.rangeLeft, h1, h4]
  have := congrArg List.length h8
  simpa [kvs, kvOf] using this
/-- A unit's changes meet a record. -/
def MeetsU (W : PW) (r : Rec) (n : Int) : Prop := n ≠ r.unit ∧ (W.unit n).st ≤ 1 ∧ ∃ k ∈ (W.unit n).left, meetB (recN W.recs k) r = true
theorem meets_iff (W : PW) (r : Rec) : Meets W r ↔ ∃ n, MeetsU W r n := Iff.rfl
def MeetsIs (W : PW) (r : Rec) (w : World) (e : Ending) (w' : World) : Prop := ∃ B : Bool, e = .returned (.bool B) ∧ (B = true ↔ Meets W r) ∧ New w w'
/-- What a record of the world is. -/
structure Sane (W : PW) : Prop where
  left : ∀ n, ∀ k ∈ (W.unit n).left, 1 ≤ k ∧ k ≤ W.recs.length ∧ placeB (recN W.recs k) = true
  size : ∀ p, (W.page p).size = 128
  len : W.recs.length ≤ 1000
  lefts : ∀ n, (W.unit n).left.length ≤ 1000
  st : ∀ n, 0 ≤ (W.unit n).st ∧ (W.unit n).st ≤ 3
structure Meeting (w0 w wr : World) (wb : Nat) (S : WSh) (W : PW) (r : Rec) (q rr : Nat) (bv av uv : Value) (todo : List (Int × Value)) : Prop where
  range : IRange wr rr S.un (S.lu.map fun x => (x.1, .pointer (some ⟨x.2.1, 0, none⟩))) todo
  new : New w wr
  box : wr.heap[q]? = some (.cells (recCells r bv av uv) 36 (0, 0))
  done : ∀ x ∈ S.lu, (x.1, Value.pointer (some ⟨x.2.1, 0, none⟩)) ∉ todo → ¬ MeetsU W r x.1
theorem rec_at {w0 w : World} {wb : Nat} {S : WSh} {W : PW} (h : WorldAt w0 w wb S W) {k : Nat} (h1 : 1 ≤ k) (h2 : k ≤ W.recs.length) :
    ∃ g c bv av uv, S.rv = .slice (some ⟨g, 0, none⟩) W.recs.length c ∧ RecAt w0 (recN W.recs k) bv av uv ∧ ∀ j, j < 10 → w.cell? ⟨g, (k - 1) * 10 + j, none⟩ = (recCells (recN W.recs k) bv av uv)[j]? := by
  obtain ⟨xs, hr1, hr2⟩ := h.recs
  obtain ⟨p, c, e⟩ := own_len hr1
  rw [e] at hr1
  have hlt : k - 1 < W.recs.length := by omega
  have hrn : recN W.recs k = W.recs[k - 1] := by unfold recN; rw [List.getElem?_eq_getElem hlt]; rfl
  rcases hr1.2 with ⟨e0, hz⟩ | ⟨g, cap, cur, e0, hg, hh, r⟩
  · omega
  · injection e0 with e1 _ e3
    subst e1 e3
    obtain ⟨bv, av, uv, hr, hj⟩ := rec_row hr1 hr2 rfl hlt
    rw [← hrn] at hr hj
    exact ⟨g, c, bv, av, uv, e, hr, hj⟩
set_option maxRecDepth 100000 in
set_option maxHeartbeats 4000000 in
theorem meets_any (w0 : World) (wb : Nat) (S : WSh) (W : PW) (r : Rec) (bv av uv : Value) (w : World) (h : WorldAt w0 w wb S W) (hr : RecAt w0 r bv av uv) (hp : placeB r = true) (hs : Sane W) :
    Calls Try.prog 86 #[.pointer (some ⟨wb, 0, none⟩), .agg (recCells r bv av uv)] w (MeetsIs W r w) := by
  obtain ⟨b0, b1, b2, b3, b4, b5⟩ := place_bounds hp
  obtain ⟨⟨bp, bc, rfl, b7, b8, b9⟩, ⟨ap, ac, rfl, a7, a8, a9⟩, ⟨up, uc, rfl, u7, u8, u9⟩⟩ := hr
  have na : New w (w.alloc (.cells (recCells r (.slice bp r.before.size bc) (.slice ap r.after.size ac) (.slice up r.units.length uc)) 36)) := Below.alloc (New.refl w) (Nat.le_refl _) _
  have HQ := hid (alloc_block w (.cells (recCells r (.slice bp r.before.size bc) (.slice ap r.after.size ac) (.slice up r.units.length uc)) 36))
  have H := hid h
  have HS := hid hs
  have HNA := hid na
  obtain ⟨c0, c1, c2, c3, c4⟩ := (h.newer na).cells
  have M1 := hid (h.newer na).units.map
  clear h b9 u9 a9 na hs
  go_enter Try.func86, Try.ntmps86
  go_wp2_with (at_range; refine wpList_range rfl _ 62 rfl 3 67 Try.underlying62 S.un _ rfl M1.out ?_; intro o6 hrg)
  go_frame
  generalize hw1 : w.alloc (.cells (recCells r (.slice bp r.before.size bc) (.slice ap r.after.size ac) (.slice up r.units.length uc)) 36) = w1 at *
  generalize hq0 : w.heap.size = q at *
  have HQW : Hid (w.heap.size = q) := hid hq0
  have HI0 : Hid (Meeting w0 w (w1.alloc o6) wb S W r q w1.heap.size (.slice bp r.before.size bc) (.slice ap r.after.size ac) (.slice up r.units.length uc) (S.lu.map fun x => (x.1, .pointer (some ⟨x.2.1, 0, none⟩)))) := hid ⟨hrg, HNA.out.trans (Below.alloc (New.refl w1) (Nat.le_refl _) o6), (Below.block (Below.alloc (New.refl w1) (Nat.le_refl _) o6) q (Array.getElem?_eq_some_iff.1 HQ.out).1).trans HQ.out, fun x hx hno => absurd (List.mem_map_of_mem hx) hno⟩
  have HRR : Hid (w.heap.size ≤ w1.heap.size ∧ q < w1.heap.size) := hid ⟨HNA.out.size, (Array.getElem?_eq_some_iff.1 HQ.out).1⟩
  clear hrg hw1 c0 c1 c2 c3 c4 hq0
  generalize w1.alloc o6 = w2 at *
  generalize w1.heap.size = rr at *
  go_loopw [5, 6, 8, 9, 36] (fun _ _ _ _ _ wr => ∃ todo, Hid (Meeting w0 w wr wb S W r q rr (.slice bp r.before.size bc) (.slice ap r.after.size ac) (.slice up r.units.length uc) todo)) (fun _ _ _ _ _ wr => wr.rangeLeft S.un rr)
  case atStart => exact ⟨_, HI0⟩
  case round =>
    clear HI0
    obtain ⟨todo, hR⟩ := hrel
    have HM0 := hid hR.out.range.left_eq
    go_wp2_with (at_next; refine wpList_next rfl _ rfl rr S.un _ todo rfl hR.out.range ?_ ?_)
    · intro h0
      have HD := hid (fun x hx => hR.out.done x hx (by rw [h0]; simp))
      clear h0
      go_wp2
      go_ret
      refine ⟨false, rfl, ⟨fun h => (by cases h), fun ⟨n, hm⟩ => ?_⟩, hR.out.new⟩
      exfalso
      by_cases hx : ∀ x ∈ S.lu, x.1 ≠ n
      · have := H.out.units.none n hx
        obtain ⟨_, _, k, hk, _⟩ := hm
        rw [this] at hk
        cases hk
      · simp only [Classical.not_forall] at hx
        obtain ⟨x, hx, hxn⟩ := hx
        have hxn : x.1 = n := Classical.not_not.1 hxn
        exact HD.out x hx (hxn ▸ hm)
    · intro n v w3 o' hmem hw3 hrg3 hen
      obtain ⟨x, hx, hxe⟩ := List.mem_map.1 (hR.out.range.sub _ hmem)
      injection hxe with hxe1 hxe2
      subst hxe1 hxe2
      have HLT := hid (delL_length hmem)
      have HT3 : Hid (Turn (· = rr) wr (setBlock w3 rr o')) := hid (by
        have h1 : Turn (· = rr) wr w3 := by
          rcases hw3 with rfl | rfl
          · exact Turn.refl _ _
          · exact Turn.of_new (New.refl wr).drew
        exact h1.trans (set_turn w3 rr o'))
      have N4 := hid (New.turn hR.out.new HT3.out (fun k hk e => by have := HRR.out.1; omega))
      have B4 := hid (block_turn hR.out.box HT3.out (fun e => by have := HRR.out.2; omega))
      have R4 := hid hrg3
      have HX := hid hx
      have HM4 := hid hrg3.left_eq
      clear hmem hw3 hrg3 hx
      generalize setBlock w3 rr o' = w4 at *
      have H4 := hid (H.out.newer N4.out)
      obtain ⟨hu1, hu2⟩ := H4.out.units.unit x HX.out
      obtain ⟨lp, lc, hlv⟩ := own_len hu2
      obtain ⟨⟨s0, s1⟩, hll⟩ := And.intro (HS.out.st x.1) (HS.out.lefts x.1)
      have HU1 := hid hu1
      have HU2 := hid hu2
      obtain ⟨xn, xb, xv⟩ := x
      have uc0 : w4.cell? ⟨xb, 0, none⟩ = some (.int .i64 (W.unit xn).st) := cells_of hu1 0
      have uc1 : w4.cell? ⟨xb, 1, none⟩ = some (.slice lp (W.unit xn).left.length lc) := by rw [← hlv]; exact cells_of hu1 1
      have HLV : Hid (xv = .slice lp (W.unit xn).left.length lc) := hid hlv
      have q1 : w4.cell? ⟨q, 1, none⟩ = some (.int .i64 r.unit) := cells_of B4.out 1
      have DN : Hid (¬ MeetsU W r xn → ∀ y ∈ S.lu, (y.1, Value.pointer (some ⟨y.2.1, 0, none⟩)) ∉ delL todo xn → ¬ MeetsU W r y.1) := hid (fun hno y hy hny => by
        by_cases hyx : y.1 = xn
        · rw [hyx]; exact hno
        · refine hR.out.done y hy (fun ht => hny ?_)
          unfold delL
          rw [List.mem_filter]
          exact ⟨ht, by simpa using hyx⟩)
      clear hu1 hu2 hlv
      generalize hU : W.unit xn = U at *
      have HU := hid hU
      clear hU
      by_cases hnu : xn = r.unit
      · have t1 : (xn == r.unit) = true := by simpa using hnu
        have HNU := hid hnu
        clear hnu
        go_wp2
        go_roundw
        case rel => exact ⟨_, hid ⟨R4.out, N4.out, B4.out, DN.out (fun hm => hm.1 HNU.out)⟩⟩
        case measure => rw [HM4.out, HM0.out]; exact HLT.out
      have t1 : (xn == r.unit) = false := by simpa using hnu
      have HNU := hid hnu
      clear hnu
      by_cases hst : U.st ≤ 1
      case neg =>
        have t2 : decide (1 < U.st) = true := by simp; omega
        have HST := hid hst
        clear hst
        go_wp2
        go_roundw
        case rel => exact ⟨_, hid ⟨R4.out, N4.out, B4.out, DN.out (fun hm => HST.out (by rw [← HU.out]; exact hm.2.1))⟩⟩
        case measure => rw [HM4.out, HM0.out]; exact HLT.out
      have t2 : decide (1 < U.st) = false := by simp; omega
      have HST := hid hst
      clear hst
      generalize hll2 : U.left.length = z at *
      have HLL := hid hll2
      clear hll2
      have HLF : Hid (∀ k ∈ U.left, 1 ≤ k ∧ k ≤ W.recs.length ∧ placeB (recN W.recs k) = true) := hid (by rw [← HU.out]; exact HS.out.left xn)
      have HROW : Hid (RowAt w4 (.slice lp z lc) z (natVals U.left)) := hid (by rw [← HLV.out]; exact RowAt.owned HU2.out)
      have HZ : Hid (z ≤ lc ∧ lc ≤ maxLen) := hid (by obtain ⟨p, c, e, h1, h2, _⟩ := HROW.out; injection e with _ _ e; subst e; exact ⟨h1, h2⟩)
      obtain ⟨hz1, hz2⟩ := HZ.out
      unfold maxLen at hz2
      go_wp2_with fail
      go_loopw [8, 9, 36] (fun _ _ i wq => ∃ k : Nat, k ≤ z ∧ i = .int .i64 k ∧ Hid (New w4 wq) ∧ Hid (∀ j (hj : j < U.left.length), j < k → meetB (recN W.recs U.left[j]) r = false)) (fun _ _ i _ => z - (intOf i).toNat)
      case atStart => exact ⟨0, Nat.zero_le _, rfl, hid (New.refl w4), hid (fun j hj h => absurd h (Nat.not_lt_zero _))⟩
      case round =>
        obtain ⟨k, hk, rfl, hnq, hno⟩ := hrel
        by_cases hlt : k < z
        · have HKL : Hid (k < U.left.length) := hid (by rw [HLL.out]; exact hlt)
          have hmem := List.getElem_mem HKL.out
          obtain ⟨g1, g2, g3⟩ := HLF.out _ hmem
          have HMEM := hid hmem
          have HNEXT : Hid (meetB (recN W.recs U.left[k]) r = false → ∀ j (hj : j < U.left.length), j < k + 1 → meetB (recN W.recs U.left[j]) r = false) := hid (fun hm j hj hj2 => by
            rcases Nat.lt_or_ge j k with h | h
            · exact hno.out j hj h
            · obtain rfl : j = k := by omega
              exact hm)
          obtain ⟨p0, c0, e0, -, -, hcell⟩ := HROW.out
          injection e0 with e01 _ e03
          obtain ⟨gL, oL, e04, hgL, hcL⟩ := hcell (by omega)
          have hcL2 := hcL k (by unfold natVals; rw [List.length_map]; exact HKL.out)
          have hcv : (natVals U.left).getD k undef = .int .i64 ((U.left[k] : Nat) : Int) := by
            unfold natVals
            rw [List.getD_eq_getElem?_getD, List.getElem?_map, List.getElem?_eq_getElem HKL.out]
            rfl
          rw [hcv] at hcL2
          subst e01 e04
          have y1 := (hnq.out.cell gL (oL + k) hgL).trans hcL2
          clear hmem hcell hcL hcL2 hcv hno
          generalize U.left[k] = kk at *
          obtain ⟨i, rfl⟩ : ∃ i, kk = i + 1 := ⟨kk - 1, by omega⟩

          rw [show (((i + 1 : Nat) : Int)) = (i : Int) + 1 from rfl] at y1
          have HWQ := hid (H4.out.newer hnq.out)
          obtain ⟨g, gc, bv', av', uv', hrv, hra, hrc⟩ := rec_at HWQ.out g1 g2
          obtain ⟨⟨bp', bc', rfl, -, -, -⟩, ⟨ap', ac', rfl, _, _, -⟩, ⟨up', uc', rfl, -, -, -⟩⟩ := hra
          rw [Nat.add_sub_cancel] at hrc
          obtain ⟨y20, y21, y22, y23, y24, y25, y26, y27, y28, y29⟩ := rec_ten hrc
          have w0c : wr.cell? ⟨wb, 0, none⟩ = some (.slice (some ⟨g, 0, none⟩) W.recs.length gc) := by rw [← hrv]; exact HWQ.out.cells.1
          obtain ⟨e0, e1, e2, e3, e4, e5⟩ := place_bounds g3
          have hlen := HS.out.len
          have hil : i < W.recs.length := by omega
          have hi1000 : (i : Int) ≤ 1000 := by omega

          have BQ := hid ((Below.block hnq.out q (Array.getElem?_eq_some_iff.1 B4.out).1).trans B4.out)
          have hqlt : q < wr.heap.size := (Array.getElem?_eq_some_iff.1 BQ.out).1
          have q2 : wr.cell? ⟨q, 2, none⟩ = some (.int .i64 r.page) := cells_of BQ.out 2
          have q3 : wr.cell? ⟨q, 3, none⟩ = some (.int .i64 r.at_) := cells_of BQ.out 3
          have q5 : wr.cell? ⟨q, 5, none⟩ = some (.slice ap r.after.size ac) := cells_of BQ.out 5
          have HMD : Hid (meetB (recN W.recs (i + 1)) r = (decide ((recN W.recs (i + 1)).page = r.page) && decide ((recN W.recs (i + 1)).at_ < r.at_ + (r.after.size : Int)) && decide (r.at_ < (recN W.recs (i + 1)).at_ + ((recN W.recs (i + 1)).after.size : Int)))) := hid rfl
          clear hrc hrv g3
          generalize hcn : recN W.recs (i + 1) = c at *
          have HCN := hid hcn
          clear hcn
          have hsz1 : c.after.size ≤ 128 := by omega
          have hsz2 : r.after.size ≤ 128 := by omega
          have NQ := hid (hnq.out.trans (Below.alloc (New.refl wr) (Nat.le_refl _) (.cells (recCells c (.slice bp' c.before.size bc') (.slice ap' c.after.size ac') (.slice up' c.units.length uc')) 36)))
          by_cases hA : c.page = r.page
          case neg =>
            have tA : (c.page == r.page) = false := by simpa using hA
            have HF : Hid (meetB c r = false) := hid (by rw [HMD.out, decide_eq_false hA]; rfl)
            clear hA
            go_wp2
            go_roundw
            case rel => exact ⟨k + 1, by omega, by go_num, NQ, hid (HNEXT.out HF.out)⟩
            case measure => simp [intOf]; omega
          have tA : (c.page == r.page) = true := by simpa using hA
          have HA := hid hA
          clear hA
          by_cases hB : c.at_ < r.at_ + (r.after.size : Int)
          case neg =>
            have tB : decide (c.at_ < r.at_ + (r.after.size : Int)) = false := by simpa using hB
            have HF : Hid (meetB c r = false) := hid (by rw [HMD.out, tB]; simp)
            clear hB
            go_wp2
            go_roundw
            case rel => exact ⟨k + 1, by omega, by go_num, NQ, hid (HNEXT.out HF.out)⟩
            case measure => simp [intOf]; omega
          have tB : decide (c.at_ < r.at_ + (r.after.size : Int)) = true := by simpa using hB
          clear hB
          by_cases hC : r.at_ < c.at_ + (c.after.size : Int)
          case neg =>
            have tC : decide (r.at_ < c.at_ + (c.after.size : Int)) = false := by simpa using hC
            have HF : Hid (meetB c r = false) := hid (by rw [HMD.out, tC]; simp)
            clear hC
            go_wp2
            go_roundw
            case rel => exact ⟨k + 1, by omega, by go_num, NQ, hid (HNEXT.out HF.out)⟩
            case measure => simp [intOf]; omega
          have tC : decide (r.at_ < c.at_ + (c.after.size : Int)) = true := by simpa using hC
          have HY : Hid (meetB c r = true) := hid (by rw [HMD.out, tB, tC, decide_eq_true HA.out]; rfl)
          clear hC
          go_wp2
          go_ret
          exact ⟨true, rfl, ⟨fun _ => ⟨xn, HNU.out, by rw [HU.out]; exact HST.out, _, by rw [HU.out]; exact HMEM.out, by rw [HCN.out]; exact HY.out⟩, fun _ => rfl⟩, N4.out.trans NQ.out⟩
        · obtain rfl : k = z := by omega
          have HALL : Hid (¬ MeetsU W r xn) := hid (fun ⟨_, _, k, hk, hm⟩ => by
            rw [HU.out] at hk
            obtain ⟨j, hj, rfl⟩ := List.mem_iff_getElem.1 hk
            rw [hno.out j hj (by rw [← HLL.out]; exact hj)] at hm
            cases hm)
          have R5 := hid (R4.out.keep (Below.block hnq.out S.un R4.out.lt.2.1) (Below.block hnq.out rr R4.out.lt.1))
          have HM5 := hid R5.out.left_eq
          have B5 := hid ((Below.block hnq.out q (Array.getElem?_eq_some_iff.1 B4.out).1).trans B4.out)
          clear hno
          go_wp2
          go_roundw
          case rel => exact ⟨_, hid ⟨R5.out, N4.out.trans hnq.out, B5.out, DN.out HALL.out⟩⟩
          case measure => rw [HM5.out, HM0.out]; exact HLT.out
end Go.Proofs.Ytmchbciofdokfaa
