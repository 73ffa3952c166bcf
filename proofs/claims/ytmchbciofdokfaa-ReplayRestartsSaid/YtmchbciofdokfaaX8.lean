/- The specification's world: isChange tells whether a change may be next. The specification's world: follows tells whether a record may be next. -/
import Derived.Test.YtmchbciofdokfaaX2
import Derived.Test.YtmchbciofdokfaaW6
import Derived.StillTailTactics
import Derived.Test.YtmchbciofdokfaaX4
import Derived.Test.YtmchbciofdokfaaX6
import Derived.Test.YtmchbciofdokfaaW32
import Derived.Test.YtmchbciofdokfaaW16
namespace Go.Proofs.Ytmchbciofdokfaa
open Go.RowKit
set_option linter.unusedSimpArgs false
set_option linter.unusedVariables false

theorem ref_part {w0 : Base} {w : World} {wb : Nat} {S : RSh} {W : PW} (h : RefAt w0 w wb S W) {p o k c : Nat} (hp : p < 120) (hk : o + k ≤ 128) (hc : k ≤ c) (hc2 : c ≤ 128) : Bytes w (.slice (some ⟨wb, 2 + p * 128 + o, none⟩) k c) (partB (W.page p) o k) := by
  have hz : (W.page p).size ≥ 128 := by
    rcases Nat.lt_or_ge (W.page p).size 128 with hlt | hge
    · have := h.page p hp (W.page p).size hlt
      rw [List.getElem?_eq_none (by rw [byteVals_length]; exact Nat.le_refl _)] at this
      cases this
    · exact hge
  have hsz : (partB (W.page p) o k).size = k := by
    unfold partB
    rw [bytesOf_size, List.length_take, List.length_drop, data_len]
    omega
  refine ⟨_, c, by rw [hsz], by rw [hsz]; exact hc, by unfold maxLen; omega, fun h0 => ⟨wb, 2 + p * 128 + o, rfl, h.lt, fun i hi => ?_⟩⟩
  rw [byteVals_length, hsz] at hi
  have h1 := h.page p hp (o + i) (by omega)
  rw [show 2 + p * 128 + (o + i) = 2 + p * 128 + o + i by omega] at h1
  rw [h.raw.cell (2 + p * 128 + o + i) (by omega), List.getD_eq_getElem?_getD, ← h1]
  have e : byteVals (partB (W.page p) o k) = ((byteVals (W.page p)).drop o).take k := by
    unfold partB
    simp only [byteVals, bytesOf, List.map_take, List.map_drop]
  rw [e, List.getElem?_take, if_pos hi, List.getElem?_drop]
  rw [h1]
  rfl
def IsChangeIs (W : PW) (r : Rec) (w : World) (e : Ending) (w' : World) : Prop := ∃ B : Bool, e = .returned (.bool B) ∧ (B = true ↔ ¬ Meets W r ∧ partB (W.page r.page.toNat) r.at_.toNat r.before.size = r.before) ∧ New w w'
set_option maxRecDepth 100000 in
set_option maxHeartbeats 8000000 in
theorem isChange_any (w0 : Base) (wb : Nat) (S : RSh) (W : PW) (r : Rec) (bv av uv : Value) (w : World) (h : RefAt w0 w wb S W) (hr : RecAt w0 r bv av uv) (hp : placeB r = true) (hba : r.before.size = r.after.size) (hs : Sane W) (hll : S.lu.length ≤ 1000) (hkd : ∀ n, ∀ k ∈ (W.unit n).left, (recN W.recs k).kind = 1) :
    Calls Try.prog 92 #[.pointer (some ⟨wb, 0, none⟩), .agg (recCells r bv av uv)] w (IsChangeIs W r w) := by
  obtain ⟨b0, b1, b2, b3, b4, b5⟩ := place_bounds hp
  obtain ⟨pn, hpn, hpn2⟩ : ∃ n : Nat, r.page = (n : Int) ∧ n < 120 := ⟨r.page.toNat, by omega, by omega⟩
  obtain ⟨an, han, han2⟩ : ∃ n : Nat, r.at_ = (n : Int) ∧ n + r.after.size ≤ 128 := ⟨r.at_.toNat, by omega, by omega⟩
  obtain ⟨⟨bp, bc, rfl, b7, b8, b9⟩, ⟨ap, ac, rfl, a7, a8, a9⟩, ⟨up, uc, rfl, u7, u8, u9⟩⟩ := id hr
  have na : New w (w.alloc (.cells (recCells r (.slice bp r.before.size bc) (.slice ap r.after.size ac) (.slice up r.units.length uc)) 36)) := (New.refl w).alloc _ _
  have HQ := hid (alloc_block w (.cells (recCells r (.slice bp r.before.size bc) (.slice ap r.after.size ac) (.slice up r.units.length uc)) 36))
  have H1 := hid (h.newer na)
  have HR := hid hr
  have HS := hid hs
  have HKD := hid hkd
  clear hkd
  have HP := hid hp
  have HNA := hid na
  have HPOST : Hid (partB (W.page r.page.toNat) r.at_.toNat r.before.size = partB (W.page pn) an r.before.size) := hid (by rw [hpn, han]; rfl)
  have hlt1 : an < 128 := by omega
  have hbs : an + r.before.size ≤ 128 := by omega
  have hrb : r.before.size ≤ 128 := by omega
  have hwp : IntKind.i64.wrap ((an : Int) + (r.before.size : Int)) = ((an + r.before.size : Nat) : Int) := by rw [Int.natCast_add]; exact IntWalk.i64_in _ (by omega)
  have HBA := hid hba
  clear hba
  go_enter Try.func92, Try.ntmps92
  go_wp2_with fail
  generalize hw1 : w.alloc (.cells (recCells r (.slice bp r.before.size bc) (.slice ap r.after.size ac) (.slice up r.units.length uc)) 36) = w1 at *
  obtain ⟨q, hq0⟩ : ∃ q, w.heap.size = q := ⟨_, rfl⟩
  rw [hq0] at HQ ⊢
  clear hw1 hq0 h hr hs hp na b9 a9 u9
  have H1d := hid (H1.out.newer (New.refl w1).drew)
  have Qd := hid ((Below.block (New.refl w1).drew q (Array.getElem?_eq_some_iff.1 HQ.out).1).trans HQ.out)
  have q2 : w1.drew.cell? ⟨q, 2, none⟩ = some (.int .i64 (pn : Int)) := by rw [← hpn]; exact cells_of Qd.out 2
  have q3 : w1.drew.cell? ⟨q, 3, none⟩ = some (.int .i64 (an : Int)) := by rw [← han]; exact cells_of Qd.out 3
  have q4 : w1.drew.cell? ⟨q, 4, none⟩ = some (.slice bp r.before.size bc) := cells_of Qd.out 4
  have hcv1 := Bytes.convert (ref_part H1d.out (p := pn) (o := an) (k := r.before.size) (c := 128 - an) hpn2 hbs (by omega) (by omega)) 33 5 9 Try.underlying33 Try.underlying5 Try.underlying9
  have hcv2 := Bytes.convert (HR.out.before.new (H1.out.new.trans (New.refl w1).drew)) 33 5 9 Try.underlying33 Try.underlying5 Try.underlying9
  have HPN := hid hpn
  have HAN := hid han
  clear hpn han b0 b1 b2 b3 b4 b5
  obtain ⟨PB, hpb⟩ : ∃ PB, partB (W.page pn) an r.before.size = PB := ⟨_, rfl⟩
  have HPB := hid hpb
  rw [hpb] at hcv1
  clear hpb
  have k0 : (0 : Int) ≤ (an : Int) := by omega
  have k1 : (an : Int) ≤ (an : Int) + (r.before.size : Int) := by omega
  have k2 : (an : Int) + (r.before.size : Int) ≤ 128 := by omega
  have k3 : ((an : Int) + (r.before.size : Int)).toNat = an + r.before.size := by omega
  have k4 : ¬ 128 = an := by omega
  have k5 : (pn : Int) < 120 := by omega
  have k6 : (0 : Int) ≤ (pn : Int) := by omega
  have N2 : Hid (New w w1.drew) := hid HNA.out.drew
  by_cases hsame : PB.toList = r.before.toList
  case neg =>
    have HN : Hid (partB (W.page r.page.toNat) r.at_.toNat r.before.size ≠ r.before) := hid (fun h => by
      rw [HPOST.out, HPB.out] at h
      exact hsame (by rw [h]))
    have tt : (PB.toList == r.before.toList) = false := beq_eq_false_iff_ne.2 hsame
    go_region
    clear hwp k0 k1 k2 k3 k4 k5 k6 hcv1 hcv2 hsame
    go_wp2
    go_ret
    exact ⟨false, rfl, ⟨fun h => (by cases h), fun h => absurd h.2 HN.out⟩, N2.out⟩
  have HSAME := hid (str_eq hsame)
  go_region
  as_aux_lemma =>
    clear hwp k0 k1 k2 k3 k4 k5 k6 hcv1 hcv2 hsame q2 q3 q4 hlt1 hbs
    have HPB2 : Hid (partB (W.page r.page.toNat) r.at_.toNat r.before.size = r.before) := hid (by rw [HPOST.out, HPB.out, HSAME.out])
    generalize w1.drew = w2 at *
    obtain ⟨pu, cu, hu, hu1, hu2⟩ := H1d.out.rowU2
    have HU := hid hu
    have c1 : w2.cell? ⟨wb, 1, none⟩ = some (.slice pu S.lu.length cu) := by rw [H1d.out.cell1, hu]
    have hql := (Array.getElem?_eq_some_iff.1 Qd.out).1
    clear hu HQ H1 HNA HPOST HPB HSAME HPN HAN HBA b7 b8 a7 a8 u7 u8 hpn2 han2 hrb
    go_wp2_with fail
    go_loopw [5, 6, 7] (fun i _ _ wr => ∃ k : Nat, k ≤ S.lu.length ∧ i = .int .i64 k ∧ Hid (New w2 wr) ∧ Hid (∀ j (hj : j < S.lu.length), j < k → ¬ MeetsU W r (S.lu[j]).1)) (fun i _ _ _ => S.lu.length - (intOf i).toNat)
    case atStart => exact ⟨0, Nat.zero_le _, rfl, hid (New.refl w2), hid (fun j hj h => absurd h (Nat.not_lt_zero _))⟩
    case round =>
      obtain ⟨k, hk, rfl, hn, hno⟩ := hrel
      have HW := hid (H1d.out.newer hn.out)
      have QR := hid ((Below.block hn.out q (Array.getElem?_eq_some_iff.1 Qd.out).1).trans Qd.out)
      have d1 : wr.cell? ⟨wb, 1, none⟩ = some (.slice pu S.lu.length cu) := by rw [HW.out.cell1, HU.out]
      have NR := hid (N2.out.trans hn.out)
      by_cases hlt : k < S.lu.length
      · obtain ⟨g, o, c, e, -, -, hg, hcu⟩ := HW.out.unit_at hlt
        rw [HU.out] at e
        injection e with e1 _ e3
        subst e1 e3
        have hx := List.getElem_mem hlt
        obtain ⟨hb, hb2⟩ := HW.out.units.unit _ hx
        have HX := hid hx
        have HNEXT : Hid (¬ MeetsU W r (S.lu[k]).1 → ∀ j (hj : j < S.lu.length), j < k + 1 → ¬ MeetsU W r (S.lu[j]).1) := hid (fun hm j hj hj2 => by
          rcases Nat.lt_or_ge j k with h | h
          · exact hno.out j hj h
          · obtain rfl : j = k := by omega
            exact hm)
        clear hno hx c1
        generalize S.lu[k] = x at *
        obtain ⟨xn, xb, xv⟩ := x
        obtain ⟨lp, lc, hlv⟩ := own_len hb2
        have uc0 : wr.cell? ⟨xb, 0, none⟩ = some (.int .i64 xn) := cells_of hb 0
        have uc1 : wr.cell? ⟨xb, 1, none⟩ = some (.int .i64 (W.unit xn).st) := cells_of hb 1
        have uc2 : wr.cell? ⟨xb, 2, none⟩ = some (.slice lp (W.unit xn).left.length lc) := by rw [← hlv]; exact cells_of hb 2
        have HROW : Hid (RowAt wr (.slice lp (W.unit xn).left.length lc) (W.unit xn).left.length (natVals (W.unit xn).left)) := hid (by rw [← hlv]; exact RowAt.owned hb2)
        have HLF : Hid (∀ k ∈ (W.unit xn).left, 1 ≤ k ∧ k ≤ W.recs.length ∧ placeB (recN W.recs k) = true) := hid (HS.out.left xn)
        have HKX : Hid (∀ k ∈ (W.unit xn).left, (recN W.recs k).kind = 1) := hid (HKD.out xn)
        obtain ⟨s0, s1⟩ := HS.out.st xn
        have hll2 := HS.out.lefts xn
        have hxlt : xb < wr.heap.size := (Array.getElem?_eq_some_iff.1 hb).1
        have q1 : wr.cell? ⟨q, 1, none⟩ = some (.int .i64 r.unit) := cells_of QR.out 1
        have hqlt := (Array.getElem?_eq_some_iff.1 QR.out).1
        clear hb hb2 hlv
        generalize hU : W.unit xn = U at *
        have HU2 := hid hU
        clear hU
        by_cases hnu : xn = r.unit
        · have t1 : (xn == r.unit) = true := by simpa using hnu
          have HNU := hid hnu
          clear hnu
          go_wp2_with fail
          go_quiet (fail)
          go_wp2
          go_roundw
          case rel => exact ⟨k + 1, by omega, by go_num, hid (hn.out.trans (New.drewN (New.refl _) _)), hid (HNEXT.out (fun hm => hm.1 HNU.out))⟩
          case measure => simp [intOf]; omega
        have t1 : (xn == r.unit) = false := by simpa using hnu
        have HNU := hid hnu
        clear hnu
        by_cases hst2 : U.st = 2
        · have t2 : (U.st == 2) = true := by simpa using hst2
          have HST := hid hst2
          clear hst2
          go_wp2_with fail
          go_quiet (fail)
          go_wp2
          go_roundw
          case rel => exact ⟨k + 1, by omega, by go_num, hid (hn.out.trans (New.drewN (New.refl _) _)), hid (HNEXT.out (fun hm => by have h := hm.2.1; rw [HU2.out, HST.out] at h; exact absurd h (by decide)))⟩
          case measure => simp [intOf]; omega
        have t2 : (U.st == 2) = false := by simpa using hst2
        by_cases hst3 : U.st = 3
        · have t3 : (U.st == 3) = true := by simpa using hst3
          have HST := hid hst3
          clear hst3 hst2
          go_wp2_with fail
          go_quiet (fail)
          go_wp2
          go_roundw
          case rel => exact ⟨k + 1, by omega, by go_num, hid (hn.out.trans (New.drewN (New.refl _) _)), hid (HNEXT.out (fun hm => by have h := hm.2.1; rw [HU2.out, HST.out] at h; exact absurd h (by decide)))⟩
          case measure => simp [intOf]; omega
        have t3 : (U.st == 3) = false := by simpa using hst3
        have HST : Hid (U.st ≤ 1) := hid (by omega)
        clear hst2 hst3
        generalize hz : U.left.length = z at *
        have HZ := hid hz
        clear hz
        have HLZ : Hid (z ≤ lc ∧ lc ≤ maxLen) := hid (by obtain ⟨p, c, e, h1, h2, _⟩ := HROW.out; injection e with _ _ e; subst e; exact ⟨h1, h2⟩)
        obtain ⟨hz1, hz2⟩ := HLZ.out
        unfold maxLen at hz2
        go_wp2_with fail
        go_quiet (fail)
        have N3 := hid (hn.out.trans (New.drewN (New.refl wr) nq))
        have HR3 := hid (HROW.out.new (New.drewN (New.refl wr) nq))
        have HW3 := hid (HW.out.newer (New.drewN (New.refl wr) nq))
        have Q3 : Hid ((wr.drewN nq).heap[q]? = _) := hid QR.out
        have v2 : (wr.drewN nq).cell? ⟨xb, 2, none⟩ = some (.slice lp z lc) := uc2
        have v0 : xb < (wr.drewN nq).heap.size := hxlt
        clear uc0 uc1 uc2 d1 q1 hxlt hqlt t1 t2 t3 s0 s1 HROW HW QR
        generalize wr.drewN nq = w3 at *
        go_wp2_with fail
        go_loopw [7] (fun i wq => ∃ j : Nat, j ≤ z ∧ i = .int .i64 j ∧ Hid (New w3 wq) ∧ Hid (∀ a (ha : a < U.left.length), a < j → meetB (recN W.recs U.left[a]) r = false)) (fun i _ => z - (intOf i).toNat)
        case atStart => exact ⟨0, Nat.zero_le _, rfl, hid (New.refl w3), hid (fun j hj h => absurd h (Nat.not_lt_zero _))⟩
        case round =>
          obtain ⟨j, hj, rfl, hnq, hmo⟩ := hrel
          have x2 := ((bcell hnq.out).1 xb 2 v0).trans v2
          have xl := Nat.lt_of_lt_of_le v0 hnq.out.size
          by_cases hjl : j < z
          · have HKL : Hid (j < U.left.length) := hid (by rw [HZ.out]; exact hjl)
            have hmem := List.getElem_mem HKL.out
            obtain ⟨g1, g2, g3⟩ := HLF.out _ hmem
            have HMEM := hid hmem
            have g4 := HKX.out _ hmem
            have HNX : Hid (meetB (recN W.recs U.left[j]) r = false → ∀ a (ha : a < U.left.length), a < j + 1 → meetB (recN W.recs U.left[a]) r = false) := hid (fun hm a ha ha2 => by
              rcases Nat.lt_or_ge a j with h | h
              · exact hmo.out a ha h
              · obtain rfl : a = j := by omega
                exact hm)
            obtain ⟨p0, c0, e0, -, -, hcell⟩ := HR3.out
            injection e0 with e01 _ e03
            obtain ⟨gL, oL, e04, hgL, hcL⟩ := hcell (by omega)
            have hcL2 := hcL j (by unfold natVals; rw [List.length_map]; exact HKL.out)
            have hcv : (natVals U.left).getD j undef = .int .i64 ((U.left[j] : Nat) : Int) := by
              unfold natVals
              rw [List.getD_eq_getElem?_getD, List.getElem?_map, List.getElem?_eq_getElem HKL.out]
              rfl
            rw [hcv] at hcL2
            subst e01 e04
            have y1 := (hnq.out.cell gL (oL + j) hgL).trans hcL2
            clear hmem hcell hcL hcL2 hcv hmo
            generalize U.left[j] = kk at *
            obtain ⟨i, rfl⟩ : ∃ i, kk = i + 1 := ⟨kk - 1, by omega⟩
            rw [show (((i + 1 : Nat) : Int)) = (i : Int) + 1 from rfl] at y1
            have HWQ := hid (HW3.out.newer hnq.out)
            obtain ⟨gR, gc, bv', av', uv', hrv, hra, hrc⟩ := ref_rec_at HWQ.out g1 g2 g4
            have HRA := hid hra
            obtain ⟨⟨bp', bc', rfl, -, -, -⟩, ⟨ap', ac', rfl, _, _, -⟩, ⟨up', uc', rfl, -, -, -⟩⟩ := hra
            rw [Nat.add_sub_cancel] at hrc
            obtain ⟨y20, y21, y22, y23, y24, y25, y26, y27, y28, y29⟩ := rec_ten hrc
            have w0c : wr.cell? ⟨wb, 0, none⟩ = some (.slice (some ⟨gR, 0, none⟩) W.recs.length gc) := by rw [← hrv]; exact HWQ.out.cell0
            have hlen := HS.out.len
            have hil : i < W.recs.length := by omega
            have BQ := hid ((Below.block hnq.out q (Array.getElem?_eq_some_iff.1 Q3.out).1).trans Q3.out)
            obtain ⟨m0, m1, m2, m3, m4, m5, m6, m7, m8, m9⟩ := rec_box BQ.out
            have HPL := hid g3
            have HRC := hid (HRA.out.new HWQ.out.new)
            have HRQ := hid (HR.out.new HWQ.out.new)
            clear hrc hrv g3 g4
            generalize hcn : recN W.recs (i + 1) = c at *
            have HCN := hid hcn
            clear hcn
            go_wp2_with fail
            have hiw : IntKind.i64.wrap ((i : Int) + 1 - 1) = (i : Int) := by rw [Int.add_sub_cancel]; exact IntWalk.i64_in _ (by omega)
            have hiw0 : IntKind.i64.wrap (i : Int) = (i : Int) := IntWalk.i64_in _ (by omega)
            have hi1000 : (i : Int) ≤ 1000 := by omega
            have hi0 : (0 : Int) ≤ (i : Int) := by omega
            have hin : ((i : Int)).toNat = i := by omega
            have hil2 : (i : Int) < (W.recs.length : Int) := by omega
            obtain ⟨B, hB⟩ : ∃ B, meetB c r = B := ⟨_, rfl⟩
            have HBB := hid hB
            clear hB
            go_still_tail 15, (by kernel_rfl)
            change wpList _ _ _ _ _ wr.drew
            go_wp2_with fail
            refine (refMeets_any c r _ _ _ _ _ _ _ (HRC.out.new (New.refl wr).drew) (HRQ.out.new (New.refl wr).drew) HPL.out HP.out).mono ?_
            rintro e w9 ⟨rfl, hn9⟩
            have HN9 := hid hn9
            rw [HBB.out]
            clear hn9
            have N9 := hid (hnq.out.trans ((New.refl wr).drew.trans HN9.out))
            clear y1 y20 y21 y22 y23 y24 y25 y26 y27 y28 y29 m0 m1 m2 m3 m4 m5 m6 m7 m8 m9 w0c x2
            have HCC : Hid (meetB (recN W.recs (i + 1)) r = B) := hid (by rw [HCN.out]; exact HBB.out)
            cases B
            · go_wp2
              go_roundw
              case rel => exact ⟨j + 1, by omega, by go_num, N9, hid (HNX.out HBB.out)⟩
              case measure => simp [intOf]; omega
            · go_wp2
              go_ret
              exact ⟨false, rfl, ⟨fun h => (by cases h), fun h => absurd ⟨xn, HNU.out, by rw [HU2.out]; exact HST.out, _, by rw [HU2.out]; exact HMEM.out, HCC.out⟩ h.1⟩, (N2.out.trans N3.out).trans N9.out⟩
          · obtain rfl : j = z := by omega
            have HALL : Hid (¬ MeetsU W r xn) := hid (fun ⟨_, _, k, hk, hm⟩ => by
              rw [HU2.out] at hk
              obtain ⟨a, ha, rfl⟩ := List.mem_iff_getElem.1 hk
              rw [hmo.out a ha (by rw [← HZ.out]; exact ha)] at hm
              cases hm)
            clear hmo
            go_wp2
            go_roundw
            case rel => exact ⟨k + 1, by omega, by go_num, hid (N3.out.trans hnq.out), hid (HNEXT.out HALL.out)⟩
            case measure => simp [intOf]; omega
      · obtain rfl : k = S.lu.length := by omega
        have HNM : Hid (¬ Meets W r) := hid (fun ⟨n, hm⟩ => by
          by_cases hx : ∀ x ∈ S.lu, x.1 ≠ n
          · have := H1d.out.units.none n hx
            obtain ⟨_, _, k, hk, _⟩ := hm
            rw [this] at hk
            cases hk
          · simp only [Classical.not_forall] at hx
            obtain ⟨x, hx, hxn⟩ := hx
            have hxn : x.1 = n := Classical.not_not.1 hxn
            obtain ⟨j, hj, rfl⟩ := List.mem_iff_getElem.1 hx
            exact hno.out j hj hj (hxn ▸ hm))
        clear hno
        go_wp2
        go_ret
        exact ⟨true, rfl, ⟨fun _ => ⟨HNM.out, HPB2.out⟩, fun _ => rfl⟩, NR.out⟩
end Go.Proofs.Ytmchbciofdokfaa

namespace Go.Proofs.Ytmchbciofdokfaa
open Go.RowKit
set_option linter.unusedSimpArgs false
set_option linter.unusedVariables false

theorem ok_iff {W : PW} {r : Rec} (hv : validB r = true) (hu : r.unit ≠ 0) (h6 : r.kind ≠ 6) : Ok W r ↔ (W.unit r.unit).st ≤ 1 ∧ ((W.unit r.unit).st = 1 → r.kind ≠ 1 ∧ r.kind ≠ 5) ∧
    (r.kind = 1 → ¬ Meets W r ∧ partB (W.page r.page.toNat) r.at_.toNat r.before.size = r.before) ∧ (r.kind = 2 → Undoes W r) ∧ (r.kind = 4 → (W.unit r.unit).left = []) :=
  ⟨fun h => ⟨h.runs, h.ready, h.change, h.undone, h.over⟩, fun ⟨a, b, c, d, e⟩ => ⟨hv, fun h => absurd h hu, a, b, c, d, e, fun h => absurd h h6⟩⟩
theorem ok_mark {W : PW} {r : Rec} (hv : validB r = true) (h6 : r.kind = 6) (h0 : W.unit 0 = au0) : Ok W r ↔ IsOpens W.unit r.units :=
  ⟨fun h => h.mark h6, fun h => by
    have hu := valid_zero hv h6
    have e : W.unit r.unit = au0 := by rw [hu, h0]
    exact ⟨hv, fun _ => .inl h6, by rw [e]; decide, fun h1 => by rw [e] at h1; exact absurd h1 (by decide), fun h1 => by omega, fun h1 => by omega, fun h1 => by omega, fun _ => h⟩⟩
theorem ok_loose2 {W : PW} {r : Rec} (hv : validB r = true) (hu : r.unit = 0) (h6 : r.kind ≠ 6) (h0 : W.unit 0 = au0) : Ok W r ↔ r.kind = 7 :=
  ⟨fun h => (h.zero hu).resolve_left h6, fun h => by
    have e : W.unit r.unit = au0 := by rw [hu, h0]
    exact ⟨hv, fun _ => .inr h, by rw [e]; decide, fun h1 => by rw [e] at h1; exact absurd h1 (by decide), fun h1 => by omega, fun h1 => by omega, fun h1 => by omega, fun h1 => by omega⟩⟩
/-- What follows returns. -/
def FollowsIs (W : PW) (r : Rec) (w : World) (e : Ending) (w' : World) : Prop := ∃ B : Bool, e = .returned (.bool B) ∧ (B = true ↔ Ok W r) ∧ New w w'
theorem opens_iff {f : Int → AU} {l m : List Opn} (h : IsOpens f m) : decide (l = m) = true ↔ IsOpens f l := by
  rw [decide_eq_true_eq]
  exact ⟨fun e => e ▸ h, fun k => opens_one k h⟩
set_option maxRecDepth 100000 in
set_option maxHeartbeats 8000000 in
theorem follows_any (w0 : Base) (wb : Nat) (S : RSh) (W : PW) (r : Rec) (bv av uv : Value) (w : World) (h : RefAt w0 w wb S W) (hr : RecAt w0 r bv av uv) (hs : Sane W) (h0 : W.unit 0 = au0) (hll : S.lu.length ≤ 1000)
    (hbs : ∀ n, ∀ k ∈ (W.unit n).left, (recN W.recs k).kind = 1 ∧ (recN W.recs k).before.size ≤ 1000) :
    Calls Try.prog 66 #[.pointer (some ⟨wb, 0, none⟩), .agg (recCells r bv av uv)] w (FollowsIs W r w) := by
  obtain ⟨⟨bp, bc, rfl, -, -, -⟩, ⟨ap, ac, rfl, -, -, -⟩, ⟨up, uc, rfl, u7, u8, -⟩⟩ := id hr
  have na : New w (w.alloc (.cells (recCells r (.slice bp r.before.size bc) (.slice ap r.after.size ac) (.slice up r.units.length uc)) 36)) := (New.refl w).alloc _ _
  have HQ := hid (alloc_block w (.cells (recCells r (.slice bp r.before.size bc) (.slice ap r.after.size ac) (.slice up r.units.length uc)) 36))
  have H1 := hid (h.newer na)
  have HR := hid hr
  have HS := hid hs
  have HNA := hid na
  have HZ0 := hid h0
  have HBS := hid hbs
  clear h hr hs h0 hbs na
  go_enter Try.func66, Try.ntmps66
  go_wp2_with fail
  refine (refRec_any r _ _ _ _ (HR.out.new H1.out.new)).mono ?_
  rintro e w2 ⟨rfl, n2⟩
  generalize hw1 : w.alloc (.cells (recCells r (.slice bp r.before.size bc) (.slice ap r.after.size ac) (.slice up r.units.length uc)) 36) = w1 at *
  obtain ⟨q, hq0⟩ : ∃ q, w.heap.size = q := ⟨_, rfl⟩
  rw [hq0] at HQ ⊢
  clear hw1 hq0
  have H2 := hid (H1.out.newer n2)
  have Q2 := hid ((Below.block n2 q (Array.getElem?_eq_some_iff.1 HQ.out).1).trans HQ.out)
  have N2 := hid (HNA.out.trans n2)
  clear n2 HQ H1 HNA
  by_cases hv : validB r = true
  case neg =>
    have hv : validB r = false := by simpa using hv
    have HNO : Hid (¬ Ok W r) := hid (fun h => by have := h.valid; rw [hv] at this; cases this)
    rw [hv]
    clear hv
    go_wp2
    go_ret
    exact ⟨false, rfl, ⟨fun h => (by cases h), fun h => absurd h HNO.out⟩, N2.out⟩
  have HV := hid hv
  rw [hv]
  clear hv
  obtain ⟨mq0, mq1, mq2, mq3, mq4, mq5, mq6, mq7, mq8, mq9⟩ := rec_box Q2.out
  have hqlt := (Array.getElem?_eq_some_iff.1 Q2.out).1
  by_cases h6 : r.kind = 6
  · have HOK := hid (ok_mark HV.out h6 HZ0.out)
    have t6 : (r.kind == 6) = true := beq_iff_eq.2 h6
    clear h6
    go_wp2_with fail
    have S0 : w2.drew.cell? ⟨q, 9, none⟩ = some (.slice up r.units.length uc) := mq9
    have H2d := hid (H2.out.newer (New.refl w2).drew)
    go_region_held3 (fun w' : World => w'.cell? ⟨q, 9, none⟩ = some (.slice up r.units.length uc)) (first | with_reducible exact S0 | with_reducible exact S1 | with_reducible exact S2 | go_keep)
      (first
        | (go_at_call 67; (with_reducible refine (ropens_any w0 wb S W w2.drew H2d.out HS.out.st hll HS.out.lefts).mono ?_); rintro e w3 ⟨v3, ol, rfl, hol, hop, hn3, hol2⟩; have HOL := hid hol; have HOP := hid hop; have HN3 := hid hn3; have S1 := ((bcell hn3).1 q 9 hqlt).trans S0; clear hol hop hn3)
        | (go_at_call 31; (with_reducible refine (sameOpens_any _ v3 r.units ol w3 (HR.out.units.new (H2d.out.new.trans HN3.out)) HOP.out).mono ?_); rintro e w4 ⟨rfl, hn4⟩; have HN4 := hid hn4; have S2 := ((bcell hn4).1 q 9 (Nat.lt_of_lt_of_le hqlt HN3.out.size)).trans S1; clear hn4))
    go_wp2
    go_ret
    exact ⟨_, rfl, (opens_iff HOL.out).trans HOK.out.symm, ((N2.out.trans (New.refl w2).drew).trans HN3.out).trans HN4.out⟩
  have t6 : (r.kind == 6) = false := beq_eq_false_iff_ne.2 h6
  have H6 := hid h6
  clear h6
  by_cases hu : r.unit = 0
  · have HOK := hid (ok_loose2 HV.out hu H6.out HZ0.out)
    have tu : (r.unit == 0) = true := beq_iff_eq.2 hu
    clear hu
    go_wp2
    go_ret
    exact ⟨(r.kind == 7), rfl, (by rw [beq_iff_eq]; exact HOK.out.symm), N2.out⟩
  have tu : (r.unit == 0) = false := beq_eq_false_iff_ne.2 hu
  have HOK := hid (ok_iff (W := W) HV.out hu H6.out)
  clear hu
  go_wp2_with fail
  refine (find_any w0 wb S W r.unit _ H2.out).mono ?_
  rintro e w3 (⟨hno, rfl, rfl⟩ | ⟨⟨xn, b, v⟩, hx, hxn, rfl, rfl⟩)
  · have e0 := H2.out.units.none r.unit hno
    have HST : Hid ((W.unit r.unit).st ≤ 1 ∧ (W.unit r.unit).st ≠ 1) := hid (by rw [e0]; decide)
    have HLF : Hid ((W.unit r.unit).left = []) := hid (by rw [e0]; rfl)
    clear hno e0
    by_cases hk : r.kind = 1
    · as_aux_lemma =>
        have t1 : (r.kind == 1) = true := beq_iff_eq.2 hk
        have t2 : (r.kind == 2) = false := beq_eq_false_iff_ne.2 (by omega)
        have t4 : (r.kind == 4) = false := beq_eq_false_iff_ne.2 (by omega)
        have t5 : (r.kind == 5) = false := beq_eq_false_iff_ne.2 (by omega)
        have HK := hid hk
        clear hk
        go_wp2_with fail
        refine (isChange_any w0 wb S W r _ _ _ _ H2.out HR.out (valid_place HV.out (by rw [lays, HK.out]; rfl)) (valid_before HV.out HK.out) HS.out hll (fun n k hk => (HBS.out n k hk).1)).mono ?_
        rintro e w5 ⟨B, rfl, hB, hn5⟩
        have HB := hid hB
        have HN5 := hid hn5
        clear hB hn5
        go_wp2
        go_ret
        exact ⟨B, rfl, ⟨fun hb => HOK.out.2 ⟨HST.out.1, fun h1 => absurd h1 HST.out.2, fun _ => HB.out.1 hb, fun h2 => absurd (HK.out.symm.trans h2) (by decide), fun h4 => absurd (HK.out.symm.trans h4) (by decide)⟩, fun ho => HB.out.2 ((HOK.out.1 ho).2.2.1 HK.out)⟩, N2.out.trans HN5.out⟩
    have k1 := hk
    clear hk
    by_cases hk : r.kind = 2
    · as_aux_lemma =>
        have t1 : (r.kind == 1) = false := beq_eq_false_iff_ne.2 (by omega)
        have t2 : (r.kind == 2) = true := beq_iff_eq.2 hk
        have t4 : (r.kind == 4) = false := beq_eq_false_iff_ne.2 (by omega)
        have t5 : (r.kind == 5) = false := beq_eq_false_iff_ne.2 (by omega)
        have HK := hid hk
        clear hk
        go_wp2_with fail
        refine (isUndone_nil _ W r _ _ _ _ (HR.out.new H2.out.new) HLF.out).mono ?_
        rintro e w5 ⟨B, rfl, hB, hn5⟩
        have HB := hid hB
        have HN5 := hid hn5
        clear hB hn5
        go_wp2
        go_ret
        exact ⟨B, rfl, ⟨fun hb => HOK.out.2 ⟨HST.out.1, fun h1 => ⟨by rw [HK.out]; decide, by rw [HK.out]; decide⟩, fun h1 => absurd (HK.out.symm.trans h1) (by decide), fun _ => HB.out.1 hb, fun h4 => absurd (HK.out.symm.trans h4) (by decide)⟩, fun ho => HB.out.2 ((HOK.out.1 ho).2.2.2.1 HK.out)⟩, N2.out.trans HN5.out⟩
    have k2 := hk
    clear hk
    by_cases hk : r.kind = 4
    · as_aux_lemma =>
        have t1 : (r.kind == 1) = false := beq_eq_false_iff_ne.2 (by omega)
        have t2 : (r.kind == 2) = false := beq_eq_false_iff_ne.2 (by omega)
        have t4 : (r.kind == 4) = true := beq_iff_eq.2 hk
        have t5 : (r.kind == 5) = false := beq_eq_false_iff_ne.2 (by omega)
        have HK := hid hk
        clear hk
        go_wp2
        go_ret
        exact ⟨true, rfl, ⟨fun _ => HOK.out.2 ⟨HST.out.1, fun h1 => ⟨by rw [HK.out]; decide, by rw [HK.out]; decide⟩, fun h1 => absurd (HK.out.symm.trans h1) (by decide), fun h2 => absurd (HK.out.symm.trans h2) (by decide), fun _ => HLF.out⟩, fun _ => rfl⟩, N2.out⟩
    have k4 := hk
    clear hk
    have t1 : (r.kind == 1) = false := beq_eq_false_iff_ne.2 k1
    have t2 : (r.kind == 2) = false := beq_eq_false_iff_ne.2 k2
    have t4 : (r.kind == 4) = false := beq_eq_false_iff_ne.2 k4
    have HK := hid (And.intro k1 (And.intro k2 k4))
    clear k1 k2 k4
    go_wp2
    go_ret
    exact ⟨true, rfl, ⟨fun _ => HOK.out.2 ⟨HST.out.1, fun h1 => absurd h1 HST.out.2, fun h1 => absurd h1 HK.out.1, fun h2 => absurd h2 HK.out.2.1, fun h4 => absurd h4 HK.out.2.2⟩, fun _ => rfl⟩, N2.out⟩
  · obtain rfl : xn = r.unit := hxn
    obtain ⟨hb1, hb2⟩ := H2.out.units.unit _ hx
    obtain ⟨lp, lc, hlv⟩ := own_len hb2
    have HX := hid hx
    have uc1 : w2.cell? ⟨b, 1, none⟩ = some (.int .i64 (W.unit r.unit).st) := cells_of hb1 1
    have uc2 : w2.cell? ⟨b, 2, none⟩ = some (.slice lp (W.unit r.unit).left.length lc) := by rw [← hlv]; exact cells_of hb1 2
    obtain ⟨s0, s1⟩ := HS.out.st r.unit
    clear hb1 hb2 hlv hx
    by_cases hst2 : (W.unit r.unit).st = 2
    · as_aux_lemma =>
        have e2 : ((W.unit r.unit).st == 2) = true := beq_iff_eq.2 hst2
        have HNO : Hid (¬ Ok W r) := hid (fun ho => by have := (HOK.out.1 ho).1; omega)
        clear hst2 s0 s1
        go_wp2
        go_ret
        exact ⟨false, rfl, ⟨fun h => (by cases h), fun h => absurd h HNO.out⟩, N2.out⟩
    have e2 : ((W.unit r.unit).st == 2) = false := beq_eq_false_iff_ne.2 hst2
    by_cases hst3 : (W.unit r.unit).st = 3
    · as_aux_lemma =>
        have e3 : ((W.unit r.unit).st == 3) = true := beq_iff_eq.2 hst3
        have HNO : Hid (¬ Ok W r) := hid (fun ho => by have := (HOK.out.1 ho).1; omega)
        clear hst2 hst3 s0 s1
        go_wp2
        go_ret
        exact ⟨false, rfl, ⟨fun h => (by cases h), fun h => absurd h HNO.out⟩, N2.out⟩
    have e3 : ((W.unit r.unit).st == 3) = false := beq_eq_false_iff_ne.2 hst3
    by_cases hst1 : (W.unit r.unit).st = 1
    · have e1 : ((W.unit r.unit).st == 1) = true := beq_iff_eq.2 hst1
      have HST : Hid ((W.unit r.unit).st ≤ 1 ∧ (W.unit r.unit).st = 1) := hid ⟨by omega, hst1⟩
      clear hst1 hst2 hst3 s0 s1
      by_cases hk : r.kind = 1
      · as_aux_lemma =>
          have t1 : (r.kind == 1) = true := beq_iff_eq.2 hk
          have t2 : (r.kind == 2) = false := beq_eq_false_iff_ne.2 (by omega)
          have t4 : (r.kind == 4) = false := beq_eq_false_iff_ne.2 (by omega)
          have t5 : (r.kind == 5) = false := beq_eq_false_iff_ne.2 (by omega)
          have HK := hid hk
          clear hk
          go_wp2
          go_ret
          exact ⟨false, rfl, ⟨fun h => (by cases h), fun h => absurd HK.out ((HOK.out.1 h).2.1 HST.out.2).1⟩, N2.out⟩
      have k1 := hk
      clear hk
      by_cases hk : r.kind = 2
      · as_aux_lemma =>
          have t1 : (r.kind == 1) = false := beq_eq_false_iff_ne.2 (by omega)
          have t2 : (r.kind == 2) = true := beq_iff_eq.2 hk
          have t4 : (r.kind == 4) = false := beq_eq_false_iff_ne.2 (by omega)
          have t5 : (r.kind == 5) = false := beq_eq_false_iff_ne.2 (by omega)
          have HK := hid hk
          clear hk
          go_wp2_with fail
          refine (isUndone_any w0 wb S W r _ _ _ _ _ _ H2.out HX.out HR.out HS.out (HBS.out r.unit)).mono ?_
          rintro e w5 ⟨B, rfl, hB, hn5⟩
          have HB := hid hB
          have HN5 := hid hn5
          clear hB hn5
          go_wp2
          go_ret
          exact ⟨B, rfl, ⟨fun hb => HOK.out.2 ⟨HST.out.1, fun h1 => ⟨by rw [HK.out]; decide, by rw [HK.out]; decide⟩, fun h1 => absurd (HK.out.symm.trans h1) (by decide), fun _ => HB.out.1 hb, fun h4 => absurd (HK.out.symm.trans h4) (by decide)⟩, fun ho => HB.out.2 ((HOK.out.1 ho).2.2.2.1 HK.out)⟩, N2.out.trans HN5.out⟩
      have k2 := hk
      clear hk
      by_cases hk : r.kind = 4
      · as_aux_lemma =>
          have t1 : (r.kind == 1) = false := beq_eq_false_iff_ne.2 (by omega)
          have t2 : (r.kind == 2) = false := beq_eq_false_iff_ne.2 (by omega)
          have t4 : (r.kind == 4) = true := beq_iff_eq.2 hk
          have t5 : (r.kind == 5) = false := beq_eq_false_iff_ne.2 (by omega)
          have HK := hid hk
          clear hk
          by_cases hl : (W.unit r.unit).left = []
          · have HLF := hid hl
            rw [hl] at uc2
            clear hl
            go_wp2
            go_ret
            exact ⟨true, rfl, ⟨fun _ => HOK.out.2 ⟨HST.out.1, fun h1 => ⟨by rw [HK.out]; decide, by rw [HK.out]; decide⟩, fun h1 => absurd (HK.out.symm.trans h1) (by decide), fun h2 => absurd (HK.out.symm.trans h2) (by decide), fun _ => HLF.out⟩, fun _ => rfl⟩, N2.out⟩
          · have HLF := hid hl
            have hz0 : (((W.unit r.unit).left.length : Int) == 0) = false := beq_eq_false_iff_ne.2 (by have := List.length_pos_iff.2 hl; omega)
            clear hl
            go_wp2
            go_ret
            exact ⟨false, rfl, ⟨fun h => (by cases h), fun h => absurd ((HOK.out.1 h).2.2.2.2 HK.out) HLF.out⟩, N2.out⟩
      have k4 := hk
      clear hk
      by_cases hk : r.kind = 5
      · as_aux_lemma =>
          have t5 : (r.kind == 5) = true := beq_iff_eq.2 hk
          have t1 : (r.kind == 1) = false := beq_eq_false_iff_ne.2 k1
          have HK := hid hk
          clear hk k1 k2 k4
          go_wp2
          go_ret
          exact ⟨false, rfl, ⟨fun h => (by cases h), fun h => absurd HK.out ((HOK.out.1 h).2.1 HST.out.2).2⟩, N2.out⟩
      have t5 : (r.kind == 5) = false := beq_eq_false_iff_ne.2 hk
      have HK5 := hid hk
      clear hk
      have t1 : (r.kind == 1) = false := beq_eq_false_iff_ne.2 k1
      have t2 : (r.kind == 2) = false := beq_eq_false_iff_ne.2 k2
      have t4 : (r.kind == 4) = false := beq_eq_false_iff_ne.2 k4
      have HK := hid (And.intro k1 (And.intro k2 k4))
      clear k1 k2 k4
      go_wp2
      go_ret
      exact ⟨true, rfl, ⟨fun _ => HOK.out.2 ⟨HST.out.1, fun _ => ⟨HK.out.1, HK5.out⟩, fun h1 => absurd h1 HK.out.1, fun h2 => absurd h2 HK.out.2.1, fun h4 => absurd h4 HK.out.2.2⟩, fun _ => rfl⟩, N2.out⟩
    · have e1 : ((W.unit r.unit).st == 1) = false := beq_eq_false_iff_ne.2 hst1
      have HST : Hid ((W.unit r.unit).st ≤ 1 ∧ (W.unit r.unit).st ≠ 1) := hid ⟨by omega, hst1⟩
      clear hst1 hst2 hst3 s0 s1
      by_cases hk : r.kind = 1
      · as_aux_lemma =>
          have t1 : (r.kind == 1) = true := beq_iff_eq.2 hk
          have t2 : (r.kind == 2) = false := beq_eq_false_iff_ne.2 (by omega)
          have t4 : (r.kind == 4) = false := beq_eq_false_iff_ne.2 (by omega)
          have t5 : (r.kind == 5) = false := beq_eq_false_iff_ne.2 (by omega)
          have HK := hid hk
          clear hk
          go_wp2_with fail
          refine (isChange_any w0 wb S W r _ _ _ _ H2.out HR.out (valid_place HV.out (by rw [lays, HK.out]; rfl)) (valid_before HV.out HK.out) HS.out hll (fun n k hk => (HBS.out n k hk).1)).mono ?_
          rintro e w5 ⟨B, rfl, hB, hn5⟩
          have HB := hid hB
          have HN5 := hid hn5
          clear hB hn5
          go_wp2
          go_ret
          exact ⟨B, rfl, ⟨fun hb => HOK.out.2 ⟨HST.out.1, fun h1 => absurd h1 HST.out.2, fun _ => HB.out.1 hb, fun h2 => absurd (HK.out.symm.trans h2) (by decide), fun h4 => absurd (HK.out.symm.trans h4) (by decide)⟩, fun ho => HB.out.2 ((HOK.out.1 ho).2.2.1 HK.out)⟩, N2.out.trans HN5.out⟩
      have k1 := hk
      clear hk
      by_cases hk : r.kind = 2
      · as_aux_lemma =>
          have t1 : (r.kind == 1) = false := beq_eq_false_iff_ne.2 (by omega)
          have t2 : (r.kind == 2) = true := beq_iff_eq.2 hk
          have t4 : (r.kind == 4) = false := beq_eq_false_iff_ne.2 (by omega)
          have t5 : (r.kind == 5) = false := beq_eq_false_iff_ne.2 (by omega)
          have HK := hid hk
          clear hk
          go_wp2_with fail
          refine (isUndone_any w0 wb S W r _ _ _ _ _ _ H2.out HX.out HR.out HS.out (HBS.out r.unit)).mono ?_
          rintro e w5 ⟨B, rfl, hB, hn5⟩
          have HB := hid hB
          have HN5 := hid hn5
          clear hB hn5
          go_wp2
          go_ret
          exact ⟨B, rfl, ⟨fun hb => HOK.out.2 ⟨HST.out.1, fun h1 => ⟨by rw [HK.out]; decide, by rw [HK.out]; decide⟩, fun h1 => absurd (HK.out.symm.trans h1) (by decide), fun _ => HB.out.1 hb, fun h4 => absurd (HK.out.symm.trans h4) (by decide)⟩, fun ho => HB.out.2 ((HOK.out.1 ho).2.2.2.1 HK.out)⟩, N2.out.trans HN5.out⟩
      have k2 := hk
      clear hk
      by_cases hk : r.kind = 4
      · as_aux_lemma =>
          have t1 : (r.kind == 1) = false := beq_eq_false_iff_ne.2 (by omega)
          have t2 : (r.kind == 2) = false := beq_eq_false_iff_ne.2 (by omega)
          have t4 : (r.kind == 4) = true := beq_iff_eq.2 hk
          have t5 : (r.kind == 5) = false := beq_eq_false_iff_ne.2 (by omega)
          have HK := hid hk
          clear hk
          by_cases hl : (W.unit r.unit).left = []
          · have HLF := hid hl
            rw [hl] at uc2
            clear hl
            go_wp2
            go_ret
            exact ⟨true, rfl, ⟨fun _ => HOK.out.2 ⟨HST.out.1, fun h1 => ⟨by rw [HK.out]; decide, by rw [HK.out]; decide⟩, fun h1 => absurd (HK.out.symm.trans h1) (by decide), fun h2 => absurd (HK.out.symm.trans h2) (by decide), fun _ => HLF.out⟩, fun _ => rfl⟩, N2.out⟩
          · have HLF := hid hl
            have hz0 : (((W.unit r.unit).left.length : Int) == 0) = false := beq_eq_false_iff_ne.2 (by have := List.length_pos_iff.2 hl; omega)
            clear hl
            go_wp2
            go_ret
            exact ⟨false, rfl, ⟨fun h => (by cases h), fun h => absurd ((HOK.out.1 h).2.2.2.2 HK.out) HLF.out⟩, N2.out⟩
      have k4 := hk
      clear hk
      have t1 : (r.kind == 1) = false := beq_eq_false_iff_ne.2 k1
      have t2 : (r.kind == 2) = false := beq_eq_false_iff_ne.2 k2
      have t4 : (r.kind == 4) = false := beq_eq_false_iff_ne.2 k4
      have HK := hid (And.intro k1 (And.intro k2 k4))
      clear k1 k2 k4
      go_wp2
      go_ret
      exact ⟨true, rfl, ⟨fun _ => HOK.out.2 ⟨HST.out.1, fun h1 => absurd h1 HST.out.2, fun h1 => absurd h1 HK.out.1, fun h2 => absurd h2 HK.out.2.1, fun h4 => absurd h4 HK.out.2.2⟩, fun _ => rfl⟩, N2.out⟩
end Go.Proofs.Ytmchbciofdokfaa
