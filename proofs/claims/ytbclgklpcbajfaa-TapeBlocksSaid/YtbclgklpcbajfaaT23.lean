/- What progenyref03.Decode returns, but at a mark (printed by rdec.py). -/
import Derived.Test.YtbclgklpcbajfaaT22
namespace Go.Proofs.Ytbclgklpcbajfaa
open Go.RowKit
set_option linter.unusedSimpArgs false
set_option linter.unusedVariables false

set_option maxRecDepth 100000 in
set_option maxHeartbeats 8000000 in
theorem rdecode_1 (bv : Value) (l : List UInt8) (w : World) (h : Bytes w bv (bytesOf l)) (hl : l.length ≤ 1000000) (hk : (decHead l).kind = 1) : Calls Try.prog 38 #[bv] w (DecBack l w) := by
  have HB := hid h
  obtain ⟨bp, bc, rfl, b1, b2, _⟩ := h
  rw [bytesOf_size] at b1 HB ⊢
  obtain ⟨v0, s0, E0⟩ : ∃ v t, rdNum (some l) = (v, t) := ⟨_, _, rfl⟩
  obtain ⟨v1, s1, E1⟩ : ∃ v t, rdNum s0 = (v, t) := ⟨_, _, rfl⟩
  obtain ⟨v2, s2, E2⟩ : ∃ v t, rdSmall s1 = (v, t) := ⟨_, _, rfl⟩
  obtain ⟨v3, s3, E3⟩ : ∃ v t, rdNum s2 = (v, t) := ⟨_, _, rfl⟩
  obtain ⟨v4, s4, E4⟩ : ∃ v t, rdNum s3 = (v, t) := ⟨_, _, rfl⟩
  obtain ⟨v5, s5, E5⟩ : ∃ v t, rdSmall s4 = (v, t) := ⟨_, _, rfl⟩
  obtain ⟨v6, s6, E6⟩ : ∃ v t, rdText s5 = (v, t) := ⟨_, _, rfl⟩
  obtain ⟨v7, s7, E7⟩ : ∃ v t, rdText s6 = (v, t) := ⟨_, _, rfl⟩
  have hv2 : v2 = 1 := by simpa [decHead, E0, E1, E2] using hk
  subst hv2
  clear hk
  have HH : Hid (decHead l = ⟨v0, v1, 1, v3, s3⟩) := hid (by simp [decHead, E0, E1, E2, E3])
  have E0 := hid E0
  have E1 := hid E1
  have E2 := hid E2
  have E3 := hid E3
  have E4 := hid E4
  have E5 := hid E5
  have E6 := hid E6
  have T6 : Hid (v6.size ≤ 1000000) := hid (rdText_size E6.out)
  have E7 := hid E7
  have T7 : Hid (v7.size ≤ 1000000) := hid (rdText_size E7.out)
  go_enter Try.func38, Try.ntmps38
  go_wp2_with fail
  refine (refReader_any _ l _ (HB.out.renew ((New.refl w).alloc _ _)) hl).mono ?_
  rintro e wA ⟨x, rfl, hr, hn, hx⟩
  have hx' : w.heap.size ≤ x := by simp at hx; omega
  have P0 := hid (QP.start hr hn hx')
  clear hr hn hx hx'
  go_wp2_with fail
  refine (qnumber_at x _ _ _ _ E0.out P0.out.rd).mono ?_
  rintro e wr0 ⟨⟨er, rfl⟩, hr, ht⟩
  have P1 := hid (P0.out.read hr ht)
  clear hr ht P0
  go_wp2_with fail
  refine (qnumber_at x _ _ _ _ E1.out P1.out.rd).mono ?_
  rintro e wn ⟨⟨er, rfl⟩, hr, ht⟩
  have P2 := hid (P1.out.read hr ht)
  clear hr ht P1
  go_upto_region 5 with fail
  have DA := hid (P2.out.made)
  clear P2
  generalize wn.alloc (.cells #[.int .i64 0, .int .i64 0, .int .i64 0, .int .i64 0, .slice none 0 0, .slice none 0 0, .int .i64 0, .int .i64 0, .string ⟨#[]⟩, .slice none 0 0] 25) = w1 at DA ⊢
  have ml : ∀ o, w1.cell? ⟨wn.heap.size, o, none⟩ = #[.int .i64 0, .int .i64 0, .int .i64 0, .int .i64 0, .slice none 0 0, .slice none 0 0, .int .i64 0, .int .i64 0, .string ByteArray.empty, .slice none 0 0][o]? := DA.out.cells
  have fz := DA.out.frozen
  go_wp2_with fail
  refine (qsmall_at x _ _ _ _ E2.out DA.out.rd).mono ?_
  rintro e wr2 ⟨⟨er, rfl⟩, hr, ht⟩
  clear ml fz
  have D2a := hid (DA.out.read qdLaw hr ht)
  clear hr ht DA
  have ml : ∀ o, wr2.cell? ⟨wn.heap.size, o, none⟩ = #[.int .i64 0, .int .i64 0, .int .i64 0, .int .i64 0, .slice none 0 0, .slice none 0 0, .int .i64 0, .int .i64 0, .string ByteArray.empty, .slice none 0 0][o]? := D2a.out.cells
  have fz := D2a.out.frozen
  go_upto_region 6 with fail
  clear ml fz
  have D2b := hid (D2a.out.kind qdLaw 1)
  clear D2a
  generalize wr2.setCell ⟨wn.heap.size, 0, none⟩ (.int .i64 1) = wx2 at D2b ⊢
  have ml : ∀ o, wx2.cell? ⟨wn.heap.size, o, none⟩ = #[.int .i64 1, .int .i64 0, .int .i64 0, .int .i64 0, .slice none 0 0, .slice none 0 0, .int .i64 0, .int .i64 0, .string ByteArray.empty, .slice none 0 0][o]? := D2b.out.cells
  have fz := D2b.out.frozen
  go_wp2_with fail
  refine (qnumber_at x _ _ _ _ E3.out D2b.out.rd).mono ?_
  rintro e wr3 ⟨⟨er, rfl⟩, hr, ht⟩
  clear ml fz
  have D3a := hid (D2b.out.read qdLaw hr ht)
  clear hr ht D2b
  have ml : ∀ o, wr3.cell? ⟨wn.heap.size, o, none⟩ = #[.int .i64 1, .int .i64 0, .int .i64 0, .int .i64 0, .slice none 0 0, .slice none 0 0, .int .i64 0, .int .i64 0, .string ByteArray.empty, .slice none 0 0][o]? := D3a.out.cells
  have fz := D3a.out.frozen
  go_upto_region 7 with fail
  clear ml fz
  have D3b := hid (D3a.out.unit qdLaw v3)
  clear D3a
  generalize wr3.setCell ⟨wn.heap.size, 1, none⟩ (.int .i64 v3) = wx3 at D3b ⊢
  have ml : ∀ o, wx3.cell? ⟨wn.heap.size, o, none⟩ = #[.int .i64 1, .int .i64 v3, .int .i64 0, .int .i64 0, .slice none 0 0, .slice none 0 0, .int .i64 0, .int .i64 0, .string ByteArray.empty, .slice none 0 0][o]? := D3b.out.cells
  have fz := D3b.out.frozen
  go_upto_region 10 with fail
  clear ml fz
  have ml : ∀ o, wx3.cell? ⟨wn.heap.size, o, none⟩ = #[.int .i64 1, .int .i64 v3, .int .i64 0, .int .i64 0, .slice none 0 0, .slice none 0 0, .int .i64 0, .int .i64 0, .string ByteArray.empty, .slice none 0 0][o]? := D3b.out.cells
  have fz := D3b.out.frozen
  go_wp2_with fail
  refine (qnumber_at x _ _ _ _ E4.out D3b.out.rd).mono ?_
  rintro e wr4 ⟨⟨er, rfl⟩, hr, ht⟩
  clear ml fz
  have D4a := hid (D3b.out.read qdLaw hr ht)
  clear hr ht D3b
  have ml : ∀ o, wr4.cell? ⟨wn.heap.size, o, none⟩ = #[.int .i64 1, .int .i64 v3, .int .i64 0, .int .i64 0, .slice none 0 0, .slice none 0 0, .int .i64 0, .int .i64 0, .string ByteArray.empty, .slice none 0 0][o]? := D4a.out.cells
  have fz := D4a.out.frozen
  go_upto_region 11 with fail
  clear ml fz
  have D4b := hid (D4a.out.page qdLaw v4)
  clear D4a
  generalize wr4.setCell ⟨wn.heap.size, 2, none⟩ (.int .i64 v4) = wx4 at D4b ⊢
  have ml : ∀ o, wx4.cell? ⟨wn.heap.size, o, none⟩ = #[.int .i64 1, .int .i64 v3, .int .i64 v4, .int .i64 0, .slice none 0 0, .slice none 0 0, .int .i64 0, .int .i64 0, .string ByteArray.empty, .slice none 0 0][o]? := D4b.out.cells
  have fz := D4b.out.frozen
  go_wp2_with fail
  refine (qsmall_at x _ _ _ _ E5.out D4b.out.rd).mono ?_
  rintro e wr5 ⟨⟨er, rfl⟩, hr, ht⟩
  clear ml fz
  have D5a := hid (D4b.out.read qdLaw hr ht)
  clear hr ht D4b
  have ml : ∀ o, wr5.cell? ⟨wn.heap.size, o, none⟩ = #[.int .i64 1, .int .i64 v3, .int .i64 v4, .int .i64 0, .slice none 0 0, .slice none 0 0, .int .i64 0, .int .i64 0, .string ByteArray.empty, .slice none 0 0][o]? := D5a.out.cells
  have fz := D5a.out.frozen
  go_upto_region 12 with fail
  clear ml fz
  have D5b := hid (D5a.out.at_ qdLaw v5)
  clear D5a
  generalize wr5.setCell ⟨wn.heap.size, 3, none⟩ (.int .i64 v5) = wx5 at D5b ⊢
  have ml : ∀ o, wx5.cell? ⟨wn.heap.size, o, none⟩ = #[.int .i64 1, .int .i64 v3, .int .i64 v4, .int .i64 v5, .slice none 0 0, .slice none 0 0, .int .i64 0, .int .i64 0, .string ByteArray.empty, .slice none 0 0][o]? := D5b.out.cells
  have fz := D5b.out.frozen
  go_wp2_with fail
  refine (qtext_at x _ _ _ _ E6.out D5b.out.rd).mono ?_
  rintro e wr6 ⟨⟨er, rfl⟩, hr, ht⟩
  clear ml fz
  have D6a := hid (D5b.out.read qdLaw hr ht)
  clear hr ht D5b
  have ml : ∀ o, wr6.cell? ⟨wn.heap.size, o, none⟩ = #[.int .i64 1, .int .i64 v3, .int .i64 v4, .int .i64 v5, .slice none 0 0, .slice none 0 0, .int .i64 0, .int .i64 0, .string ByteArray.empty, .slice none 0 0][o]? := D6a.out.cells
  have fz := D6a.out.frozen
  go_wp2_with fail
  refine (qtext_at x _ _ _ _ E7.out D6a.out.rd).mono ?_
  rintro e wr7 ⟨⟨er, rfl⟩, hr, ht⟩
  clear ml fz
  have D7a := hid (D6a.out.read qdLaw hr ht)
  clear hr ht D6a
  have ml : ∀ o, wr7.cell? ⟨wn.heap.size, o, none⟩ = #[.int .i64 1, .int .i64 v3, .int .i64 v4, .int .i64 v5, .slice none 0 0, .slice none 0 0, .int .i64 0, .int .i64 0, .string ByteArray.empty, .slice none 0 0][o]? := D7a.out.cells
  have fz := D7a.out.frozen
  obtain ⟨p6, m6, q6, wc6, kc, hc, hn⟩ := conv_made wr7 v6 T6.out
  have HC6 := hid hc
  have HN6 := hid hn
  clear hc hn
  have DD := hid (D7a.out.newer qdLaw HN6.out)
  clear D7a HN6
  clear ml fz
  obtain ⟨p7, m7, q7, wc7, kc7, hc, hn⟩ := conv_made wc6 v7 T7.out
  have HC7 := hid hc
  have HC6b := hid (HC6.out.new hn)
  have DE := hid (DD.out.newer qdLaw hn)
  clear hc hn DD HC6
  have ml : ∀ o, wc7.cell? ⟨wn.heap.size, o, none⟩ = #[.int .i64 1, .int .i64 v3, .int .i64 v4, .int .i64 v5, .slice none 0 0, .slice none 0 0, .int .i64 0, .int .i64 0, .string ByteArray.empty, .slice none 0 0][o]? := DE.out.cells
  have fz := DE.out.frozen
  go_upto_region 32 with fail
  clear kc kc7 ml fz
  have DF := hid (DE.out.before qdLaw (.slice p6 m6 q6) v6 HC6b.out)
  have HC7b := hid (HC7.out.turn (turn_set wc7 wn.heap.size 4 (.slice p6 m6 q6)) (apart_of DE.out.rc (by decide)))
  have DG := hid (DF.out.after qdLaw (.slice p7 m7 q7) v7 HC7b.out)
  clear DE DF HC6b HC7 HC7b
  generalize (wc7.setCell ⟨wn.heap.size, 4, none⟩ (.slice p6 m6 q6)).setCell ⟨wn.heap.size, 5, none⟩ (.slice p7 m7 q7) = wx7 at DG ⊢
  have HR : Hid (decRec l = ((⟨1, v3, v4, v5, v6, v7, 0, 0, ByteArray.empty, []⟩ : Rec), s7)) := hid (by simp [decRec, HH.out, decRest, recK, E4.out, E5.out, E6.out, E7.out])
  have HM : Hid ((decHead l).num = v1) := hid (by rw [HH.out])
  clear E0 E1 E2 E3 E4 E5 E6 E7 HH
  have ml : ∀ o, wx7.cell? ⟨wn.heap.size, o, none⟩ = #[.int .i64 1, .int .i64 v3, .int .i64 v4, .int .i64 v5, .slice p6 m6 q6, .slice p7 m7 q7, .int .i64 0, .int .i64 0, .string ByteArray.empty, .slice none 0 0][o]? := DG.out.cells
  have fz := DG.out.frozen
  cases s7 with
  | none =>
    go_wp2_with fail
    refine (renc_all v1 (⟨1, v3, v4, v5, v6, v7, 0, 0, ByteArray.empty, []⟩ : Rec) (.slice p6 m6 q6) (.slice p7 m7 q7) (.slice none 0 0) wx7 DG.out.at).mono ?_
    rintro e wE ⟨pE, kE, cE, er, rfl, nE, yE, zE⟩
    have DE := hid (DG.out.newer qdLaw nE)
    have YE := hid yE
    have ZE := hid zE
    have NE := hid nE
    clear ml fz nE yE zE DG
    have qb := qd_bad_none DE.out.rd
    go_upto_region 35 with fail
    clear qb
    have NO : Hid (decOk l = false) := hid (decOk_none HR.out)
    have m3 : ∀ o, wE.cell? ⟨w.heap.size, o, none⟩ = #[.int .i64 0, .int .i64 0, .int .i64 0, .int .i64 0, .slice none 0 0, .slice none 0 0, .int .i64 0, .int .i64 0, .string ByteArray.empty, .slice none 0 0][o]? := DE.out.other (w.heap.size, #[.int .i64 0, .int .i64 0, .int .i64 0, .int .i64 0, .slice none 0 0, .slice none 0 0, .int .i64 0, .int .i64 0, .string ByteArray.empty, .slice none 0 0], 25) (by simp)
    have f3 : ∀ o, wE.frozen? ⟨w.heap.size, o, none⟩ = false := frozen_of (DE.out.oth (w.heap.size, #[.int .i64 0, .int .i64 0, .int .i64 0, .int .i64 0, .slice none 0 0, .slice none 0 0, .int .i64 0, .int .i64 0, .string ByteArray.empty, .slice none 0 0], 25) (by simp)).1
    go_wp2
    have hs := set10 (DE.out.oth (w.heap.size, #[.int .i64 0, .int .i64 0, .int .i64 0, .int .i64 0, .slice none 0 0, .slice none 0 0, .int .i64 0, .int .i64 0, .string ByteArray.empty, .slice none 0 0], 25) (by simp)).1 (.int .i64 0) (.int .i64 0) (.int .i64 0) (.int .i64 0) (.slice none 0 0) (.slice none 0 0) (.int .i64 0) (.int .i64 0) (.string ⟨#[]⟩) (.slice none 0 0)
    generalize hW : World.setCell _ _ _ = W
    rw [hW] at hs
    clear hW
    (try simp only [Exit.inBlock, Exit.then])
    refine bodyPost_ret (tmp_cell_tmp_res rfl _ _ w.heap.size 25 _ (0, 0) rfl hs.1 rfl) rfl ?_
    exact dec_no_back NO.out (DE.out.lastF (DE.out.oth (w.heap.size, #[.int .i64 0, .int .i64 0, .int .i64 0, .int .i64 0, .slice none 0 0, .slice none 0 0, .int .i64 0, .int .i64 0, .string ByteArray.empty, .slice none 0 0], 25) (by simp)).1 (Nat.le_refl _) hs.2).2
  | some sm =>
    by_cases g : (validB (⟨1, v3, v4, v5, v6, v7, 0, 0, ByteArray.empty, []⟩ : Rec) && wi 1 v1 1000000) = true
    case neg =>
      have g : (validB (⟨1, v3, v4, v5, v6, v7, 0, 0, ByteArray.empty, []⟩ : Rec) && wi 1 v1 1000000) = false := by simpa using g
      go_wp2_with fail
      refine (renc_all v1 (⟨1, v3, v4, v5, v6, v7, 0, 0, ByteArray.empty, []⟩ : Rec) (.slice p6 m6 q6) (.slice p7 m7 q7) (.slice none 0 0) wx7 DG.out.at).mono ?_
      rintro e wE ⟨pE, kE, cE, er, rfl, nE, yE, zE⟩
      have DE := hid (DG.out.newer qdLaw nE)
      have YE := hid yE
      have ZE := hid zE
      have NE := hid nE
      clear ml fz nE yE zE DG
      obtain rfl := ZE.out g
      have qb := qd_bad DE.out.rd
      go_upto_region 35 with fail
      clear qb
      have NO : Hid (decOk l = false) := hid (decOk_bad HR.out HM.out g)
      have m3 : ∀ o, wE.cell? ⟨w.heap.size, o, none⟩ = #[.int .i64 0, .int .i64 0, .int .i64 0, .int .i64 0, .slice none 0 0, .slice none 0 0, .int .i64 0, .int .i64 0, .string ByteArray.empty, .slice none 0 0][o]? := DE.out.other (w.heap.size, #[.int .i64 0, .int .i64 0, .int .i64 0, .int .i64 0, .slice none 0 0, .slice none 0 0, .int .i64 0, .int .i64 0, .string ByteArray.empty, .slice none 0 0], 25) (by simp)
      have f3 : ∀ o, wE.frozen? ⟨w.heap.size, o, none⟩ = false := frozen_of (DE.out.oth (w.heap.size, #[.int .i64 0, .int .i64 0, .int .i64 0, .int .i64 0, .slice none 0 0, .slice none 0 0, .int .i64 0, .int .i64 0, .string ByteArray.empty, .slice none 0 0], 25) (by simp)).1
      go_wp2
      have hs := set10 (DE.out.oth (w.heap.size, #[.int .i64 0, .int .i64 0, .int .i64 0, .int .i64 0, .slice none 0 0, .slice none 0 0, .int .i64 0, .int .i64 0, .string ByteArray.empty, .slice none 0 0], 25) (by simp)).1 (.int .i64 0) (.int .i64 0) (.int .i64 0) (.int .i64 0) (.slice none 0 0) (.slice none 0 0) (.int .i64 0) (.int .i64 0) (.string ⟨#[]⟩) (.slice none 0 0)
      generalize hW : World.setCell _ _ _ = W
      rw [hW] at hs
      clear hW
      (try simp only [Exit.inBlock, Exit.then])
      refine bodyPost_ret (tmp_cell_tmp_res rfl _ _ w.heap.size 25 _ (0, 0) rfl hs.1 rfl) rfl ?_
      exact dec_no_back NO.out (DE.out.lastF (DE.out.oth (w.heap.size, #[.int .i64 0, .int .i64 0, .int .i64 0, .int .i64 0, .slice none 0 0, .slice none 0 0, .int .i64 0, .int .i64 0, .string ByteArray.empty, .slice none 0 0], 25) (by simp)).1 (Nat.le_refl _) hs.2).2
    go_wp2_with fail
    refine (renc_all v1 (⟨1, v3, v4, v5, v6, v7, 0, 0, ByteArray.empty, []⟩ : Rec) (.slice p6 m6 q6) (.slice p7 m7 q7) (.slice none 0 0) wx7 DG.out.at).mono ?_
    rintro e wE ⟨pE, kE, cE, er, rfl, nE, yE, zE⟩
    have DE := hid (DG.out.newer qdLaw nE)
    have YE := hid yE
    have ZE := hid zE
    have NE := hid nE
    clear ml fz nE yE zE DG
    obtain ⟨rfl, hE⟩ := YE.out g
    have qb := qd_bad DE.out.rd
    have HE := hid hE
    have G := hid g
    clear hE g YE ZE
    by_cases q : encB v1 (⟨1, v3, v4, v5, v6, v7, 0, 0, ByteArray.empty, []⟩ : Rec) = l
    case neg =>
      have q1 : cmpS (bytesOf l) (bytesOf (encB v1 (⟨1, v3, v4, v5, v6, v7, 0, 0, ByteArray.empty, []⟩ : Rec))) ≠ 0 := fun e => q (bytesOf_inj ((cmpS_zero _ _).1 e)).symm
      have q2 : (cmpS (bytesOf l) (bytesOf (encB v1 (⟨1, v3, v4, v5, v6, v7, 0, 0, ByteArray.empty, []⟩ : Rec))) == 0) = false := by simpa using q1
      have Q := hid q
      clear q q1
      go_wp2_with fail
      refine (compare_any _ _ _ _ _ (HB.out.renew (DE.out.new)) HE.out).mono ?_
      rintro e wC ⟨rfl, nC⟩
      have DC := hid (DE.out.newer qdLaw nC)
      clear nC qb
      go_upto_region 35 with fail
      clear q2
      have NO : Hid (decOk l = false) := hid (decOk_other HR.out HM.out Q.out)
      have m3 : ∀ o, wC.cell? ⟨w.heap.size, o, none⟩ = #[.int .i64 0, .int .i64 0, .int .i64 0, .int .i64 0, .slice none 0 0, .slice none 0 0, .int .i64 0, .int .i64 0, .string ByteArray.empty, .slice none 0 0][o]? := DC.out.other (w.heap.size, #[.int .i64 0, .int .i64 0, .int .i64 0, .int .i64 0, .slice none 0 0, .slice none 0 0, .int .i64 0, .int .i64 0, .string ByteArray.empty, .slice none 0 0], 25) (by simp)
      have f3 : ∀ o, wC.frozen? ⟨w.heap.size, o, none⟩ = false := frozen_of (DC.out.oth (w.heap.size, #[.int .i64 0, .int .i64 0, .int .i64 0, .int .i64 0, .slice none 0 0, .slice none 0 0, .int .i64 0, .int .i64 0, .string ByteArray.empty, .slice none 0 0], 25) (by simp)).1
      go_wp2
      have hs := set10 (DC.out.oth (w.heap.size, #[.int .i64 0, .int .i64 0, .int .i64 0, .int .i64 0, .slice none 0 0, .slice none 0 0, .int .i64 0, .int .i64 0, .string ByteArray.empty, .slice none 0 0], 25) (by simp)).1 (.int .i64 0) (.int .i64 0) (.int .i64 0) (.int .i64 0) (.slice none 0 0) (.slice none 0 0) (.int .i64 0) (.int .i64 0) (.string ⟨#[]⟩) (.slice none 0 0)
      generalize hW : World.setCell _ _ _ = W
      rw [hW] at hs
      clear hW
      (try simp only [Exit.inBlock, Exit.then])
      refine bodyPost_ret (tmp_cell_tmp_res rfl _ _ w.heap.size 25 _ (0, 0) rfl hs.1 rfl) rfl ?_
      exact dec_no_back NO.out (DC.out.lastF (DC.out.oth (w.heap.size, #[.int .i64 0, .int .i64 0, .int .i64 0, .int .i64 0, .slice none 0 0, .slice none 0 0, .int .i64 0, .int .i64 0, .string ByteArray.empty, .slice none 0 0], 25) (by simp)).1 (Nat.le_refl _) hs.2).2
    have q1 : cmpS (bytesOf l) (bytesOf (encB v1 (⟨1, v3, v4, v5, v6, v7, 0, 0, ByteArray.empty, []⟩ : Rec))) = 0 := (cmpS_zero _ _).2 (by rw [q])
    have q2 : (cmpS (bytesOf l) (bytesOf (encB v1 (⟨1, v3, v4, v5, v6, v7, 0, 0, ByteArray.empty, []⟩ : Rec))) == 0) = true := by simpa using q1
    have OK := hid (decOk_same G.out q)
    clear q q1
    go_wp2_with fail
    refine (compare_any _ _ _ _ _ (HB.out.renew (DE.out.new)) HE.out).mono ?_
    rintro e wC ⟨rfl, nC⟩
    have DC := hid (DE.out.newer qdLaw nC)
    clear nC qb
    go_upto_region 34 with fail
    clear q2
    have ml : ∀ o, wC.cell? ⟨wn.heap.size, o, none⟩ = #[.int .i64 1, .int .i64 v3, .int .i64 v4, .int .i64 v5, .slice p6 m6 q6, .slice p7 m7 q7, .int .i64 0, .int .i64 0, .string ByteArray.empty, .slice none 0 0][o]? := DC.out.cells
    have fz := DC.out.frozen
    have m3 : ∀ o, wC.cell? ⟨w.heap.size, o, none⟩ = #[.int .i64 0, .int .i64 0, .int .i64 0, .int .i64 0, .slice none 0 0, .slice none 0 0, .int .i64 0, .int .i64 0, .string ByteArray.empty, .slice none 0 0][o]? := DC.out.other (w.heap.size, #[.int .i64 0, .int .i64 0, .int .i64 0, .int .i64 0, .slice none 0 0, .slice none 0 0, .int .i64 0, .int .i64 0, .string ByteArray.empty, .slice none 0 0], 25) (by simp)
    have f3 : ∀ o, wC.frozen? ⟨w.heap.size, o, none⟩ = false := frozen_of (DC.out.oth (w.heap.size, #[.int .i64 0, .int .i64 0, .int .i64 0, .int .i64 0, .slice none 0 0, .slice none 0 0, .int .i64 0, .int .i64 0, .string ByteArray.empty, .slice none 0 0], 25) (by simp)).1
    go_region
    go_wp2
    have hs := set10 (DC.out.oth (w.heap.size, #[.int .i64 0, .int .i64 0, .int .i64 0, .int .i64 0, .slice none 0 0, .slice none 0 0, .int .i64 0, .int .i64 0, .string ByteArray.empty, .slice none 0 0], 25) (by simp)).1 (.int .i64 1) (.int .i64 v3) (.int .i64 v4) (.int .i64 v5) (.slice p6 m6 q6) (.slice p7 m7 q7) (.int .i64 0) (.int .i64 0) (.string ByteArray.empty) (.slice none 0 0)
    generalize hW : World.setCell _ _ _ = W
    rw [hW] at hs
    clear hW
    (try simp only [Exit.inBlock, Exit.then])
    refine bodyPost_ret (tmp_cell_tmp_res rfl _ _ w.heap.size 25 _ (0, 0) rfl hs.1 rfl) rfl ?_
    have hl := DC.out.lastF (DC.out.oth (w.heap.size, #[.int .i64 0, .int .i64 0, .int .i64 0, .int .i64 0, .slice none 0 0, .slice none 0 0, .int .i64 0, .int .i64 0, .string ByteArray.empty, .slice none 0 0], 25) (by simp)).1 (Nat.le_refl _) hs.2
    exact dec_yes_back OK.out.1 OK.out.2.1 OK.out.2.2 (hl.1.new (New.refl W).drew) hl.2.drew
set_option maxRecDepth 100000 in
set_option maxHeartbeats 8000000 in
theorem rdecode_2 (bv : Value) (l : List UInt8) (w : World) (h : Bytes w bv (bytesOf l)) (hl : l.length ≤ 1000000) (hk : (decHead l).kind = 2) : Calls Try.prog 38 #[bv] w (DecBack l w) := by
  have HB := hid h
  obtain ⟨bp, bc, rfl, b1, b2, _⟩ := h
  rw [bytesOf_size] at b1 HB ⊢
  obtain ⟨v0, s0, E0⟩ : ∃ v t, rdNum (some l) = (v, t) := ⟨_, _, rfl⟩
  obtain ⟨v1, s1, E1⟩ : ∃ v t, rdNum s0 = (v, t) := ⟨_, _, rfl⟩
  obtain ⟨v2, s2, E2⟩ : ∃ v t, rdSmall s1 = (v, t) := ⟨_, _, rfl⟩
  obtain ⟨v3, s3, E3⟩ : ∃ v t, rdNum s2 = (v, t) := ⟨_, _, rfl⟩
  obtain ⟨v4, s4, E4⟩ : ∃ v t, rdNum s3 = (v, t) := ⟨_, _, rfl⟩
  obtain ⟨v5, s5, E5⟩ : ∃ v t, rdSmall s4 = (v, t) := ⟨_, _, rfl⟩
  obtain ⟨v6, s6, E6⟩ : ∃ v t, rdText s5 = (v, t) := ⟨_, _, rfl⟩
  obtain ⟨v7, s7, E7⟩ : ∃ v t, rdNum s6 = (v, t) := ⟨_, _, rfl⟩
  obtain ⟨v8, s8, E8⟩ : ∃ v t, rdNum s7 = (v, t) := ⟨_, _, rfl⟩
  have hv2 : v2 = 2 := by simpa [decHead, E0, E1, E2] using hk
  subst hv2
  clear hk
  have HH : Hid (decHead l = ⟨v0, v1, 2, v3, s3⟩) := hid (by simp [decHead, E0, E1, E2, E3])
  have E0 := hid E0
  have E1 := hid E1
  have E2 := hid E2
  have E3 := hid E3
  have E4 := hid E4
  have E5 := hid E5
  have E6 := hid E6
  have T6 : Hid (v6.size ≤ 1000000) := hid (rdText_size E6.out)
  have E7 := hid E7
  have E8 := hid E8
  go_enter Try.func38, Try.ntmps38
  go_wp2_with fail
  refine (refReader_any _ l _ (HB.out.renew ((New.refl w).alloc _ _)) hl).mono ?_
  rintro e wA ⟨x, rfl, hr, hn, hx⟩
  have hx' : w.heap.size ≤ x := by simp at hx; omega
  have P0 := hid (QP.start hr hn hx')
  clear hr hn hx hx'
  go_wp2_with fail
  refine (qnumber_at x _ _ _ _ E0.out P0.out.rd).mono ?_
  rintro e wr0 ⟨⟨er, rfl⟩, hr, ht⟩
  have P1 := hid (P0.out.read hr ht)
  clear hr ht P0
  go_wp2_with fail
  refine (qnumber_at x _ _ _ _ E1.out P1.out.rd).mono ?_
  rintro e wn ⟨⟨er, rfl⟩, hr, ht⟩
  have P2 := hid (P1.out.read hr ht)
  clear hr ht P1
  go_upto_region 5 with fail
  have DA := hid (P2.out.made)
  clear P2
  generalize wn.alloc (.cells #[.int .i64 0, .int .i64 0, .int .i64 0, .int .i64 0, .slice none 0 0, .slice none 0 0, .int .i64 0, .int .i64 0, .string ⟨#[]⟩, .slice none 0 0] 25) = w1 at DA ⊢
  have ml : ∀ o, w1.cell? ⟨wn.heap.size, o, none⟩ = #[.int .i64 0, .int .i64 0, .int .i64 0, .int .i64 0, .slice none 0 0, .slice none 0 0, .int .i64 0, .int .i64 0, .string ByteArray.empty, .slice none 0 0][o]? := DA.out.cells
  have fz := DA.out.frozen
  go_wp2_with fail
  refine (qsmall_at x _ _ _ _ E2.out DA.out.rd).mono ?_
  rintro e wr2 ⟨⟨er, rfl⟩, hr, ht⟩
  clear ml fz
  have D2a := hid (DA.out.read qdLaw hr ht)
  clear hr ht DA
  have ml : ∀ o, wr2.cell? ⟨wn.heap.size, o, none⟩ = #[.int .i64 0, .int .i64 0, .int .i64 0, .int .i64 0, .slice none 0 0, .slice none 0 0, .int .i64 0, .int .i64 0, .string ByteArray.empty, .slice none 0 0][o]? := D2a.out.cells
  have fz := D2a.out.frozen
  go_upto_region 6 with fail
  clear ml fz
  have D2b := hid (D2a.out.kind qdLaw 2)
  clear D2a
  generalize wr2.setCell ⟨wn.heap.size, 0, none⟩ (.int .i64 2) = wx2 at D2b ⊢
  have ml : ∀ o, wx2.cell? ⟨wn.heap.size, o, none⟩ = #[.int .i64 2, .int .i64 0, .int .i64 0, .int .i64 0, .slice none 0 0, .slice none 0 0, .int .i64 0, .int .i64 0, .string ByteArray.empty, .slice none 0 0][o]? := D2b.out.cells
  have fz := D2b.out.frozen
  go_wp2_with fail
  refine (qnumber_at x _ _ _ _ E3.out D2b.out.rd).mono ?_
  rintro e wr3 ⟨⟨er, rfl⟩, hr, ht⟩
  clear ml fz
  have D3a := hid (D2b.out.read qdLaw hr ht)
  clear hr ht D2b
  have ml : ∀ o, wr3.cell? ⟨wn.heap.size, o, none⟩ = #[.int .i64 2, .int .i64 0, .int .i64 0, .int .i64 0, .slice none 0 0, .slice none 0 0, .int .i64 0, .int .i64 0, .string ByteArray.empty, .slice none 0 0][o]? := D3a.out.cells
  have fz := D3a.out.frozen
  go_upto_region 7 with fail
  clear ml fz
  have D3b := hid (D3a.out.unit qdLaw v3)
  clear D3a
  generalize wr3.setCell ⟨wn.heap.size, 1, none⟩ (.int .i64 v3) = wx3 at D3b ⊢
  have ml : ∀ o, wx3.cell? ⟨wn.heap.size, o, none⟩ = #[.int .i64 2, .int .i64 v3, .int .i64 0, .int .i64 0, .slice none 0 0, .slice none 0 0, .int .i64 0, .int .i64 0, .string ByteArray.empty, .slice none 0 0][o]? := D3b.out.cells
  have fz := D3b.out.frozen
  go_upto_region 10 with fail
  clear ml fz
  have ml : ∀ o, wx3.cell? ⟨wn.heap.size, o, none⟩ = #[.int .i64 2, .int .i64 v3, .int .i64 0, .int .i64 0, .slice none 0 0, .slice none 0 0, .int .i64 0, .int .i64 0, .string ByteArray.empty, .slice none 0 0][o]? := D3b.out.cells
  have fz := D3b.out.frozen
  go_wp2_with fail
  refine (qnumber_at x _ _ _ _ E4.out D3b.out.rd).mono ?_
  rintro e wr4 ⟨⟨er, rfl⟩, hr, ht⟩
  clear ml fz
  have D4a := hid (D3b.out.read qdLaw hr ht)
  clear hr ht D3b
  have ml : ∀ o, wr4.cell? ⟨wn.heap.size, o, none⟩ = #[.int .i64 2, .int .i64 v3, .int .i64 0, .int .i64 0, .slice none 0 0, .slice none 0 0, .int .i64 0, .int .i64 0, .string ByteArray.empty, .slice none 0 0][o]? := D4a.out.cells
  have fz := D4a.out.frozen
  go_upto_region 11 with fail
  clear ml fz
  have D4b := hid (D4a.out.page qdLaw v4)
  clear D4a
  generalize wr4.setCell ⟨wn.heap.size, 2, none⟩ (.int .i64 v4) = wx4 at D4b ⊢
  have ml : ∀ o, wx4.cell? ⟨wn.heap.size, o, none⟩ = #[.int .i64 2, .int .i64 v3, .int .i64 v4, .int .i64 0, .slice none 0 0, .slice none 0 0, .int .i64 0, .int .i64 0, .string ByteArray.empty, .slice none 0 0][o]? := D4b.out.cells
  have fz := D4b.out.frozen
  go_wp2_with fail
  refine (qsmall_at x _ _ _ _ E5.out D4b.out.rd).mono ?_
  rintro e wr5 ⟨⟨er, rfl⟩, hr, ht⟩
  clear ml fz
  have D5a := hid (D4b.out.read qdLaw hr ht)
  clear hr ht D4b
  have ml : ∀ o, wr5.cell? ⟨wn.heap.size, o, none⟩ = #[.int .i64 2, .int .i64 v3, .int .i64 v4, .int .i64 0, .slice none 0 0, .slice none 0 0, .int .i64 0, .int .i64 0, .string ByteArray.empty, .slice none 0 0][o]? := D5a.out.cells
  have fz := D5a.out.frozen
  go_upto_region 12 with fail
  clear ml fz
  have D5b := hid (D5a.out.at_ qdLaw v5)
  clear D5a
  generalize wr5.setCell ⟨wn.heap.size, 3, none⟩ (.int .i64 v5) = wx5 at D5b ⊢
  have ml : ∀ o, wx5.cell? ⟨wn.heap.size, o, none⟩ = #[.int .i64 2, .int .i64 v3, .int .i64 v4, .int .i64 v5, .slice none 0 0, .slice none 0 0, .int .i64 0, .int .i64 0, .string ByteArray.empty, .slice none 0 0][o]? := D5b.out.cells
  have fz := D5b.out.frozen
  go_wp2_with fail
  refine (qtext_at x _ _ _ _ E6.out D5b.out.rd).mono ?_
  rintro e wr6 ⟨⟨er, rfl⟩, hr, ht⟩
  clear ml fz
  have D6a := hid (D5b.out.read qdLaw hr ht)
  clear hr ht D5b
  have ml : ∀ o, wr6.cell? ⟨wn.heap.size, o, none⟩ = #[.int .i64 2, .int .i64 v3, .int .i64 v4, .int .i64 v5, .slice none 0 0, .slice none 0 0, .int .i64 0, .int .i64 0, .string ByteArray.empty, .slice none 0 0][o]? := D6a.out.cells
  have fz := D6a.out.frozen
  go_upto_region 16 with fail
  obtain ⟨p6, m6, q6, wc6, kc, hc, hn⟩ := conv_made wr6 v6 T6.out
  have HC6 := hid hc
  have DE := hid (D6a.out.newer qdLaw hn)
  clear hc hn D6a
  clear ml fz
  have ml : ∀ o, wc6.cell? ⟨wn.heap.size, o, none⟩ = #[.int .i64 2, .int .i64 v3, .int .i64 v4, .int .i64 v5, .slice none 0 0, .slice none 0 0, .int .i64 0, .int .i64 0, .string ByteArray.empty, .slice none 0 0][o]? := DE.out.cells
  have fz := DE.out.frozen
  go_upto_region 17 with fail
  clear kc ml fz
  have DF := hid (DE.out.after qdLaw (.slice p6 m6 q6) v6 HC6.out)
  clear DE HC6
  generalize wc6.setCell ⟨wn.heap.size, 5, none⟩ (.slice p6 m6 q6) = wx6 at DF ⊢
  have ml : ∀ o, wx6.cell? ⟨wn.heap.size, o, none⟩ = #[.int .i64 2, .int .i64 v3, .int .i64 v4, .int .i64 v5, .slice none 0 0, .slice p6 m6 q6, .int .i64 0, .int .i64 0, .string ByteArray.empty, .slice none 0 0][o]? := DF.out.cells
  have fz := DF.out.frozen
  go_wp2_with fail
  refine (qnumber_at x _ _ _ _ E7.out DF.out.rd).mono ?_
  rintro e wr7 ⟨⟨er, rfl⟩, hr, ht⟩
  clear ml fz
  have D7a := hid (DF.out.read qdLaw hr ht)
  clear hr ht DF
  have ml : ∀ o, wr7.cell? ⟨wn.heap.size, o, none⟩ = #[.int .i64 2, .int .i64 v3, .int .i64 v4, .int .i64 v5, .slice none 0 0, .slice p6 m6 q6, .int .i64 0, .int .i64 0, .string ByteArray.empty, .slice none 0 0][o]? := D7a.out.cells
  have fz := D7a.out.frozen
  go_upto_region 18 with fail
  clear ml fz
  have D7b := hid (D7a.out.back qdLaw v7)
  clear D7a
  generalize wr7.setCell ⟨wn.heap.size, 6, none⟩ (.int .i64 v7) = wx7 at D7b ⊢
  have ml : ∀ o, wx7.cell? ⟨wn.heap.size, o, none⟩ = #[.int .i64 2, .int .i64 v3, .int .i64 v4, .int .i64 v5, .slice none 0 0, .slice p6 m6 q6, .int .i64 v7, .int .i64 0, .string ByteArray.empty, .slice none 0 0][o]? := D7b.out.cells
  have fz := D7b.out.frozen
  go_wp2_with fail
  refine (qnumber_at x _ _ _ _ E8.out D7b.out.rd).mono ?_
  rintro e wr8 ⟨⟨er, rfl⟩, hr, ht⟩
  clear ml fz
  have D8a := hid (D7b.out.read qdLaw hr ht)
  clear hr ht D7b
  have ml : ∀ o, wr8.cell? ⟨wn.heap.size, o, none⟩ = #[.int .i64 2, .int .i64 v3, .int .i64 v4, .int .i64 v5, .slice none 0 0, .slice p6 m6 q6, .int .i64 v7, .int .i64 0, .string ByteArray.empty, .slice none 0 0][o]? := D8a.out.cells
  have fz := D8a.out.frozen
  go_upto_region 32 with fail
  clear ml fz
  have D8b := hid (D8a.out.next qdLaw v8)
  clear D8a
  generalize wr8.setCell ⟨wn.heap.size, 7, none⟩ (.int .i64 v8) = wx8 at D8b ⊢
  have HR : Hid (decRec l = ((⟨2, v3, v4, v5, ByteArray.empty, v6, v7, v8, ByteArray.empty, []⟩ : Rec), s8)) := hid (by simp [decRec, HH.out, decRest, recK, E4.out, E5.out, E6.out, E7.out, E8.out])
  have HM : Hid ((decHead l).num = v1) := hid (by rw [HH.out])
  clear E0 E1 E2 E3 E4 E5 E6 E7 E8 HH
  have ml : ∀ o, wx8.cell? ⟨wn.heap.size, o, none⟩ = #[.int .i64 2, .int .i64 v3, .int .i64 v4, .int .i64 v5, .slice none 0 0, .slice p6 m6 q6, .int .i64 v7, .int .i64 v8, .string ByteArray.empty, .slice none 0 0][o]? := D8b.out.cells
  have fz := D8b.out.frozen
  cases s8 with
  | none =>
    go_wp2_with fail
    refine (renc_all v1 (⟨2, v3, v4, v5, ByteArray.empty, v6, v7, v8, ByteArray.empty, []⟩ : Rec) (.slice none 0 0) (.slice p6 m6 q6) (.slice none 0 0) wx8 D8b.out.at).mono ?_
    rintro e wE ⟨pE, kE, cE, er, rfl, nE, yE, zE⟩
    have DE := hid (D8b.out.newer qdLaw nE)
    have YE := hid yE
    have ZE := hid zE
    have NE := hid nE
    clear ml fz nE yE zE D8b
    have qb := qd_bad_none DE.out.rd
    go_upto_region 35 with fail
    clear qb
    have NO : Hid (decOk l = false) := hid (decOk_none HR.out)
    have m3 : ∀ o, wE.cell? ⟨w.heap.size, o, none⟩ = #[.int .i64 0, .int .i64 0, .int .i64 0, .int .i64 0, .slice none 0 0, .slice none 0 0, .int .i64 0, .int .i64 0, .string ByteArray.empty, .slice none 0 0][o]? := DE.out.other (w.heap.size, #[.int .i64 0, .int .i64 0, .int .i64 0, .int .i64 0, .slice none 0 0, .slice none 0 0, .int .i64 0, .int .i64 0, .string ByteArray.empty, .slice none 0 0], 25) (by simp)
    have f3 : ∀ o, wE.frozen? ⟨w.heap.size, o, none⟩ = false := frozen_of (DE.out.oth (w.heap.size, #[.int .i64 0, .int .i64 0, .int .i64 0, .int .i64 0, .slice none 0 0, .slice none 0 0, .int .i64 0, .int .i64 0, .string ByteArray.empty, .slice none 0 0], 25) (by simp)).1
    go_wp2
    have hs := set10 (DE.out.oth (w.heap.size, #[.int .i64 0, .int .i64 0, .int .i64 0, .int .i64 0, .slice none 0 0, .slice none 0 0, .int .i64 0, .int .i64 0, .string ByteArray.empty, .slice none 0 0], 25) (by simp)).1 (.int .i64 0) (.int .i64 0) (.int .i64 0) (.int .i64 0) (.slice none 0 0) (.slice none 0 0) (.int .i64 0) (.int .i64 0) (.string ⟨#[]⟩) (.slice none 0 0)
    generalize hW : World.setCell _ _ _ = W
    rw [hW] at hs
    clear hW
    (try simp only [Exit.inBlock, Exit.then])
    refine bodyPost_ret (tmp_cell_tmp_res rfl _ _ w.heap.size 25 _ (0, 0) rfl hs.1 rfl) rfl ?_
    exact dec_no_back NO.out (DE.out.lastF (DE.out.oth (w.heap.size, #[.int .i64 0, .int .i64 0, .int .i64 0, .int .i64 0, .slice none 0 0, .slice none 0 0, .int .i64 0, .int .i64 0, .string ByteArray.empty, .slice none 0 0], 25) (by simp)).1 (Nat.le_refl _) hs.2).2
  | some sm =>
    by_cases g : (validB (⟨2, v3, v4, v5, ByteArray.empty, v6, v7, v8, ByteArray.empty, []⟩ : Rec) && wi 1 v1 1000000) = true
    case neg =>
      have g : (validB (⟨2, v3, v4, v5, ByteArray.empty, v6, v7, v8, ByteArray.empty, []⟩ : Rec) && wi 1 v1 1000000) = false := by simpa using g
      go_wp2_with fail
      refine (renc_all v1 (⟨2, v3, v4, v5, ByteArray.empty, v6, v7, v8, ByteArray.empty, []⟩ : Rec) (.slice none 0 0) (.slice p6 m6 q6) (.slice none 0 0) wx8 D8b.out.at).mono ?_
      rintro e wE ⟨pE, kE, cE, er, rfl, nE, yE, zE⟩
      have DE := hid (D8b.out.newer qdLaw nE)
      have YE := hid yE
      have ZE := hid zE
      have NE := hid nE
      clear ml fz nE yE zE D8b
      obtain rfl := ZE.out g
      have qb := qd_bad DE.out.rd
      go_upto_region 35 with fail
      clear qb
      have NO : Hid (decOk l = false) := hid (decOk_bad HR.out HM.out g)
      have m3 : ∀ o, wE.cell? ⟨w.heap.size, o, none⟩ = #[.int .i64 0, .int .i64 0, .int .i64 0, .int .i64 0, .slice none 0 0, .slice none 0 0, .int .i64 0, .int .i64 0, .string ByteArray.empty, .slice none 0 0][o]? := DE.out.other (w.heap.size, #[.int .i64 0, .int .i64 0, .int .i64 0, .int .i64 0, .slice none 0 0, .slice none 0 0, .int .i64 0, .int .i64 0, .string ByteArray.empty, .slice none 0 0], 25) (by simp)
      have f3 : ∀ o, wE.frozen? ⟨w.heap.size, o, none⟩ = false := frozen_of (DE.out.oth (w.heap.size, #[.int .i64 0, .int .i64 0, .int .i64 0, .int .i64 0, .slice none 0 0, .slice none 0 0, .int .i64 0, .int .i64 0, .string ByteArray.empty, .slice none 0 0], 25) (by simp)).1
      go_wp2
      have hs := set10 (DE.out.oth (w.heap.size, #[.int .i64 0, .int .i64 0, .int .i64 0, .int .i64 0, .slice none 0 0, .slice none 0 0, .int .i64 0, .int .i64 0, .string ByteArray.empty, .slice none 0 0], 25) (by simp)).1 (.int .i64 0) (.int .i64 0) (.int .i64 0) (.int .i64 0) (.slice none 0 0) (.slice none 0 0) (.int .i64 0) (.int .i64 0) (.string ⟨#[]⟩) (.slice none 0 0)
      generalize hW : World.setCell _ _ _ = W
      rw [hW] at hs
      clear hW
      (try simp only [Exit.inBlock, Exit.then])
      refine bodyPost_ret (tmp_cell_tmp_res rfl _ _ w.heap.size 25 _ (0, 0) rfl hs.1 rfl) rfl ?_
      exact dec_no_back NO.out (DE.out.lastF (DE.out.oth (w.heap.size, #[.int .i64 0, .int .i64 0, .int .i64 0, .int .i64 0, .slice none 0 0, .slice none 0 0, .int .i64 0, .int .i64 0, .string ByteArray.empty, .slice none 0 0], 25) (by simp)).1 (Nat.le_refl _) hs.2).2
    go_wp2_with fail
    refine (renc_all v1 (⟨2, v3, v4, v5, ByteArray.empty, v6, v7, v8, ByteArray.empty, []⟩ : Rec) (.slice none 0 0) (.slice p6 m6 q6) (.slice none 0 0) wx8 D8b.out.at).mono ?_
    rintro e wE ⟨pE, kE, cE, er, rfl, nE, yE, zE⟩
    have DE := hid (D8b.out.newer qdLaw nE)
    have YE := hid yE
    have ZE := hid zE
    have NE := hid nE
    clear ml fz nE yE zE D8b
    obtain ⟨rfl, hE⟩ := YE.out g
    have qb := qd_bad DE.out.rd
    have HE := hid hE
    have G := hid g
    clear hE g YE ZE
    by_cases q : encB v1 (⟨2, v3, v4, v5, ByteArray.empty, v6, v7, v8, ByteArray.empty, []⟩ : Rec) = l
    case neg =>
      have q1 : cmpS (bytesOf l) (bytesOf (encB v1 (⟨2, v3, v4, v5, ByteArray.empty, v6, v7, v8, ByteArray.empty, []⟩ : Rec))) ≠ 0 := fun e => q (bytesOf_inj ((cmpS_zero _ _).1 e)).symm
      have q2 : (cmpS (bytesOf l) (bytesOf (encB v1 (⟨2, v3, v4, v5, ByteArray.empty, v6, v7, v8, ByteArray.empty, []⟩ : Rec))) == 0) = false := by simpa using q1
      have Q := hid q
      clear q q1
      go_wp2_with fail
      refine (compare_any _ _ _ _ _ (HB.out.renew (DE.out.new)) HE.out).mono ?_
      rintro e wC ⟨rfl, nC⟩
      have DC := hid (DE.out.newer qdLaw nC)
      clear nC qb
      go_upto_region 35 with fail
      clear q2
      have NO : Hid (decOk l = false) := hid (decOk_other HR.out HM.out Q.out)
      have m3 : ∀ o, wC.cell? ⟨w.heap.size, o, none⟩ = #[.int .i64 0, .int .i64 0, .int .i64 0, .int .i64 0, .slice none 0 0, .slice none 0 0, .int .i64 0, .int .i64 0, .string ByteArray.empty, .slice none 0 0][o]? := DC.out.other (w.heap.size, #[.int .i64 0, .int .i64 0, .int .i64 0, .int .i64 0, .slice none 0 0, .slice none 0 0, .int .i64 0, .int .i64 0, .string ByteArray.empty, .slice none 0 0], 25) (by simp)
      have f3 : ∀ o, wC.frozen? ⟨w.heap.size, o, none⟩ = false := frozen_of (DC.out.oth (w.heap.size, #[.int .i64 0, .int .i64 0, .int .i64 0, .int .i64 0, .slice none 0 0, .slice none 0 0, .int .i64 0, .int .i64 0, .string ByteArray.empty, .slice none 0 0], 25) (by simp)).1
      go_wp2
      have hs := set10 (DC.out.oth (w.heap.size, #[.int .i64 0, .int .i64 0, .int .i64 0, .int .i64 0, .slice none 0 0, .slice none 0 0, .int .i64 0, .int .i64 0, .string ByteArray.empty, .slice none 0 0], 25) (by simp)).1 (.int .i64 0) (.int .i64 0) (.int .i64 0) (.int .i64 0) (.slice none 0 0) (.slice none 0 0) (.int .i64 0) (.int .i64 0) (.string ⟨#[]⟩) (.slice none 0 0)
      generalize hW : World.setCell _ _ _ = W
      rw [hW] at hs
      clear hW
      (try simp only [Exit.inBlock, Exit.then])
      refine bodyPost_ret (tmp_cell_tmp_res rfl _ _ w.heap.size 25 _ (0, 0) rfl hs.1 rfl) rfl ?_
      exact dec_no_back NO.out (DC.out.lastF (DC.out.oth (w.heap.size, #[.int .i64 0, .int .i64 0, .int .i64 0, .int .i64 0, .slice none 0 0, .slice none 0 0, .int .i64 0, .int .i64 0, .string ByteArray.empty, .slice none 0 0], 25) (by simp)).1 (Nat.le_refl _) hs.2).2
    have q1 : cmpS (bytesOf l) (bytesOf (encB v1 (⟨2, v3, v4, v5, ByteArray.empty, v6, v7, v8, ByteArray.empty, []⟩ : Rec))) = 0 := (cmpS_zero _ _).2 (by rw [q])
    have q2 : (cmpS (bytesOf l) (bytesOf (encB v1 (⟨2, v3, v4, v5, ByteArray.empty, v6, v7, v8, ByteArray.empty, []⟩ : Rec))) == 0) = true := by simpa using q1
    have OK := hid (decOk_same G.out q)
    clear q q1
    go_wp2_with fail
    refine (compare_any _ _ _ _ _ (HB.out.renew (DE.out.new)) HE.out).mono ?_
    rintro e wC ⟨rfl, nC⟩
    have DC := hid (DE.out.newer qdLaw nC)
    clear nC qb
    go_upto_region 34 with fail
    clear q2
    have ml : ∀ o, wC.cell? ⟨wn.heap.size, o, none⟩ = #[.int .i64 2, .int .i64 v3, .int .i64 v4, .int .i64 v5, .slice none 0 0, .slice p6 m6 q6, .int .i64 v7, .int .i64 v8, .string ByteArray.empty, .slice none 0 0][o]? := DC.out.cells
    have fz := DC.out.frozen
    have m3 : ∀ o, wC.cell? ⟨w.heap.size, o, none⟩ = #[.int .i64 0, .int .i64 0, .int .i64 0, .int .i64 0, .slice none 0 0, .slice none 0 0, .int .i64 0, .int .i64 0, .string ByteArray.empty, .slice none 0 0][o]? := DC.out.other (w.heap.size, #[.int .i64 0, .int .i64 0, .int .i64 0, .int .i64 0, .slice none 0 0, .slice none 0 0, .int .i64 0, .int .i64 0, .string ByteArray.empty, .slice none 0 0], 25) (by simp)
    have f3 : ∀ o, wC.frozen? ⟨w.heap.size, o, none⟩ = false := frozen_of (DC.out.oth (w.heap.size, #[.int .i64 0, .int .i64 0, .int .i64 0, .int .i64 0, .slice none 0 0, .slice none 0 0, .int .i64 0, .int .i64 0, .string ByteArray.empty, .slice none 0 0], 25) (by simp)).1
    go_region
    go_wp2
    have hs := set10 (DC.out.oth (w.heap.size, #[.int .i64 0, .int .i64 0, .int .i64 0, .int .i64 0, .slice none 0 0, .slice none 0 0, .int .i64 0, .int .i64 0, .string ByteArray.empty, .slice none 0 0], 25) (by simp)).1 (.int .i64 2) (.int .i64 v3) (.int .i64 v4) (.int .i64 v5) (.slice none 0 0) (.slice p6 m6 q6) (.int .i64 v7) (.int .i64 v8) (.string ByteArray.empty) (.slice none 0 0)
    generalize hW : World.setCell _ _ _ = W
    rw [hW] at hs
    clear hW
    (try simp only [Exit.inBlock, Exit.then])
    refine bodyPost_ret (tmp_cell_tmp_res rfl _ _ w.heap.size 25 _ (0, 0) rfl hs.1 rfl) rfl ?_
    have hl := DC.out.lastF (DC.out.oth (w.heap.size, #[.int .i64 0, .int .i64 0, .int .i64 0, .int .i64 0, .slice none 0 0, .slice none 0 0, .int .i64 0, .int .i64 0, .string ByteArray.empty, .slice none 0 0], 25) (by simp)).1 (Nat.le_refl _) hs.2
    exact dec_yes_back OK.out.1 OK.out.2.1 OK.out.2.2 (hl.1.new (New.refl W).drew) hl.2.drew
set_option maxRecDepth 100000 in
set_option maxHeartbeats 8000000 in
theorem rdecode_5 (bv : Value) (l : List UInt8) (w : World) (h : Bytes w bv (bytesOf l)) (hl : l.length ≤ 1000000) (hk : (decHead l).kind = 5) : Calls Try.prog 38 #[bv] w (DecBack l w) := by
  have HB := hid h
  obtain ⟨bp, bc, rfl, b1, b2, _⟩ := h
  rw [bytesOf_size] at b1 HB ⊢
  obtain ⟨v0, s0, E0⟩ : ∃ v t, rdNum (some l) = (v, t) := ⟨_, _, rfl⟩
  obtain ⟨v1, s1, E1⟩ : ∃ v t, rdNum s0 = (v, t) := ⟨_, _, rfl⟩
  obtain ⟨v2, s2, E2⟩ : ∃ v t, rdSmall s1 = (v, t) := ⟨_, _, rfl⟩
  obtain ⟨v3, s3, E3⟩ : ∃ v t, rdNum s2 = (v, t) := ⟨_, _, rfl⟩
  obtain ⟨v4, s4, E4⟩ : ∃ v t, rdText s3 = (v, t) := ⟨_, _, rfl⟩
  have hv2 : v2 = 5 := by simpa [decHead, E0, E1, E2] using hk
  subst hv2
  clear hk
  have HH : Hid (decHead l = ⟨v0, v1, 5, v3, s3⟩) := hid (by simp [decHead, E0, E1, E2, E3])
  have E0 := hid E0
  have E1 := hid E1
  have E2 := hid E2
  have E3 := hid E3
  have E4 := hid E4
  have T4 : Hid (v4.size ≤ 1000000) := hid (rdText_size E4.out)
  go_enter Try.func38, Try.ntmps38
  go_wp2_with fail
  refine (refReader_any _ l _ (HB.out.renew ((New.refl w).alloc _ _)) hl).mono ?_
  rintro e wA ⟨x, rfl, hr, hn, hx⟩
  have hx' : w.heap.size ≤ x := by simp at hx; omega
  have P0 := hid (QP.start hr hn hx')
  clear hr hn hx hx'
  go_wp2_with fail
  refine (qnumber_at x _ _ _ _ E0.out P0.out.rd).mono ?_
  rintro e wr0 ⟨⟨er, rfl⟩, hr, ht⟩
  have P1 := hid (P0.out.read hr ht)
  clear hr ht P0
  go_wp2_with fail
  refine (qnumber_at x _ _ _ _ E1.out P1.out.rd).mono ?_
  rintro e wn ⟨⟨er, rfl⟩, hr, ht⟩
  have P2 := hid (P1.out.read hr ht)
  clear hr ht P1
  go_upto_region 5 with fail
  have DA := hid (P2.out.made)
  clear P2
  generalize wn.alloc (.cells #[.int .i64 0, .int .i64 0, .int .i64 0, .int .i64 0, .slice none 0 0, .slice none 0 0, .int .i64 0, .int .i64 0, .string ⟨#[]⟩, .slice none 0 0] 25) = w1 at DA ⊢
  have ml : ∀ o, w1.cell? ⟨wn.heap.size, o, none⟩ = #[.int .i64 0, .int .i64 0, .int .i64 0, .int .i64 0, .slice none 0 0, .slice none 0 0, .int .i64 0, .int .i64 0, .string ByteArray.empty, .slice none 0 0][o]? := DA.out.cells
  have fz := DA.out.frozen
  go_wp2_with fail
  refine (qsmall_at x _ _ _ _ E2.out DA.out.rd).mono ?_
  rintro e wr2 ⟨⟨er, rfl⟩, hr, ht⟩
  clear ml fz
  have D2a := hid (DA.out.read qdLaw hr ht)
  clear hr ht DA
  have ml : ∀ o, wr2.cell? ⟨wn.heap.size, o, none⟩ = #[.int .i64 0, .int .i64 0, .int .i64 0, .int .i64 0, .slice none 0 0, .slice none 0 0, .int .i64 0, .int .i64 0, .string ByteArray.empty, .slice none 0 0][o]? := D2a.out.cells
  have fz := D2a.out.frozen
  go_upto_region 6 with fail
  clear ml fz
  have D2b := hid (D2a.out.kind qdLaw 5)
  clear D2a
  generalize wr2.setCell ⟨wn.heap.size, 0, none⟩ (.int .i64 5) = wx2 at D2b ⊢
  have ml : ∀ o, wx2.cell? ⟨wn.heap.size, o, none⟩ = #[.int .i64 5, .int .i64 0, .int .i64 0, .int .i64 0, .slice none 0 0, .slice none 0 0, .int .i64 0, .int .i64 0, .string ByteArray.empty, .slice none 0 0][o]? := D2b.out.cells
  have fz := D2b.out.frozen
  go_wp2_with fail
  refine (qnumber_at x _ _ _ _ E3.out D2b.out.rd).mono ?_
  rintro e wr3 ⟨⟨er, rfl⟩, hr, ht⟩
  clear ml fz
  have D3a := hid (D2b.out.read qdLaw hr ht)
  clear hr ht D2b
  have ml : ∀ o, wr3.cell? ⟨wn.heap.size, o, none⟩ = #[.int .i64 5, .int .i64 0, .int .i64 0, .int .i64 0, .slice none 0 0, .slice none 0 0, .int .i64 0, .int .i64 0, .string ByteArray.empty, .slice none 0 0][o]? := D3a.out.cells
  have fz := D3a.out.frozen
  go_upto_region 7 with fail
  clear ml fz
  have D3b := hid (D3a.out.unit qdLaw v3)
  clear D3a
  generalize wr3.setCell ⟨wn.heap.size, 1, none⟩ (.int .i64 v3) = wx3 at D3b ⊢
  have ml : ∀ o, wx3.cell? ⟨wn.heap.size, o, none⟩ = #[.int .i64 5, .int .i64 v3, .int .i64 0, .int .i64 0, .slice none 0 0, .slice none 0 0, .int .i64 0, .int .i64 0, .string ByteArray.empty, .slice none 0 0][o]? := D3b.out.cells
  have fz := D3b.out.frozen
  go_upto_region 21 with fail
  clear ml fz
  have ml : ∀ o, wx3.cell? ⟨wn.heap.size, o, none⟩ = #[.int .i64 5, .int .i64 v3, .int .i64 0, .int .i64 0, .slice none 0 0, .slice none 0 0, .int .i64 0, .int .i64 0, .string ByteArray.empty, .slice none 0 0][o]? := D3b.out.cells
  have fz := D3b.out.frozen
  go_wp2_with fail
  refine (qtext_at x _ _ _ _ E4.out D3b.out.rd).mono ?_
  rintro e wr4 ⟨⟨er, rfl⟩, hr, ht⟩
  clear ml fz
  have D4a := hid (D3b.out.read qdLaw hr ht)
  clear hr ht D3b
  have ml : ∀ o, wr4.cell? ⟨wn.heap.size, o, none⟩ = #[.int .i64 5, .int .i64 v3, .int .i64 0, .int .i64 0, .slice none 0 0, .slice none 0 0, .int .i64 0, .int .i64 0, .string ByteArray.empty, .slice none 0 0][o]? := D4a.out.cells
  have fz := D4a.out.frozen
  go_upto_region 32 with fail
  clear ml fz
  have D4b := hid (D4a.out.text qdLaw v4)
  clear D4a
  generalize wr4.setCell ⟨wn.heap.size, 8, none⟩ (.string v4) = wx4 at D4b ⊢
  have HR : Hid (decRec l = ((⟨5, v3, 0, 0, ByteArray.empty, ByteArray.empty, 0, 0, v4, []⟩ : Rec), s4)) := hid (by simp [decRec, HH.out, decRest, recK, E4.out])
  have HM : Hid ((decHead l).num = v1) := hid (by rw [HH.out])
  clear E0 E1 E2 E3 E4 HH
  have ml : ∀ o, wx4.cell? ⟨wn.heap.size, o, none⟩ = #[.int .i64 5, .int .i64 v3, .int .i64 0, .int .i64 0, .slice none 0 0, .slice none 0 0, .int .i64 0, .int .i64 0, .string v4, .slice none 0 0][o]? := D4b.out.cells
  have fz := D4b.out.frozen
  cases s4 with
  | none =>
    go_wp2_with fail
    refine (renc_all v1 (⟨5, v3, 0, 0, ByteArray.empty, ByteArray.empty, 0, 0, v4, []⟩ : Rec) (.slice none 0 0) (.slice none 0 0) (.slice none 0 0) wx4 D4b.out.at).mono ?_
    rintro e wE ⟨pE, kE, cE, er, rfl, nE, yE, zE⟩
    have DE := hid (D4b.out.newer qdLaw nE)
    have YE := hid yE
    have ZE := hid zE
    have NE := hid nE
    clear ml fz nE yE zE D4b
    have qb := qd_bad_none DE.out.rd
    go_upto_region 35 with fail
    clear qb
    have NO : Hid (decOk l = false) := hid (decOk_none HR.out)
    have m3 : ∀ o, wE.cell? ⟨w.heap.size, o, none⟩ = #[.int .i64 0, .int .i64 0, .int .i64 0, .int .i64 0, .slice none 0 0, .slice none 0 0, .int .i64 0, .int .i64 0, .string ByteArray.empty, .slice none 0 0][o]? := DE.out.other (w.heap.size, #[.int .i64 0, .int .i64 0, .int .i64 0, .int .i64 0, .slice none 0 0, .slice none 0 0, .int .i64 0, .int .i64 0, .string ByteArray.empty, .slice none 0 0], 25) (by simp)
    have f3 : ∀ o, wE.frozen? ⟨w.heap.size, o, none⟩ = false := frozen_of (DE.out.oth (w.heap.size, #[.int .i64 0, .int .i64 0, .int .i64 0, .int .i64 0, .slice none 0 0, .slice none 0 0, .int .i64 0, .int .i64 0, .string ByteArray.empty, .slice none 0 0], 25) (by simp)).1
    go_wp2
    have hs := set10 (DE.out.oth (w.heap.size, #[.int .i64 0, .int .i64 0, .int .i64 0, .int .i64 0, .slice none 0 0, .slice none 0 0, .int .i64 0, .int .i64 0, .string ByteArray.empty, .slice none 0 0], 25) (by simp)).1 (.int .i64 0) (.int .i64 0) (.int .i64 0) (.int .i64 0) (.slice none 0 0) (.slice none 0 0) (.int .i64 0) (.int .i64 0) (.string ⟨#[]⟩) (.slice none 0 0)
    generalize hW : World.setCell _ _ _ = W
    rw [hW] at hs
    clear hW
    (try simp only [Exit.inBlock, Exit.then])
    refine bodyPost_ret (tmp_cell_tmp_res rfl _ _ w.heap.size 25 _ (0, 0) rfl hs.1 rfl) rfl ?_
    exact dec_no_back NO.out (DE.out.lastF (DE.out.oth (w.heap.size, #[.int .i64 0, .int .i64 0, .int .i64 0, .int .i64 0, .slice none 0 0, .slice none 0 0, .int .i64 0, .int .i64 0, .string ByteArray.empty, .slice none 0 0], 25) (by simp)).1 (Nat.le_refl _) hs.2).2
  | some sm =>
    by_cases g : (validB (⟨5, v3, 0, 0, ByteArray.empty, ByteArray.empty, 0, 0, v4, []⟩ : Rec) && wi 1 v1 1000000) = true
    case neg =>
      have g : (validB (⟨5, v3, 0, 0, ByteArray.empty, ByteArray.empty, 0, 0, v4, []⟩ : Rec) && wi 1 v1 1000000) = false := by simpa using g
      go_wp2_with fail
      refine (renc_all v1 (⟨5, v3, 0, 0, ByteArray.empty, ByteArray.empty, 0, 0, v4, []⟩ : Rec) (.slice none 0 0) (.slice none 0 0) (.slice none 0 0) wx4 D4b.out.at).mono ?_
      rintro e wE ⟨pE, kE, cE, er, rfl, nE, yE, zE⟩
      have DE := hid (D4b.out.newer qdLaw nE)
      have YE := hid yE
      have ZE := hid zE
      have NE := hid nE
      clear ml fz nE yE zE D4b
      obtain rfl := ZE.out g
      have qb := qd_bad DE.out.rd
      go_upto_region 35 with fail
      clear qb
      have NO : Hid (decOk l = false) := hid (decOk_bad HR.out HM.out g)
      have m3 : ∀ o, wE.cell? ⟨w.heap.size, o, none⟩ = #[.int .i64 0, .int .i64 0, .int .i64 0, .int .i64 0, .slice none 0 0, .slice none 0 0, .int .i64 0, .int .i64 0, .string ByteArray.empty, .slice none 0 0][o]? := DE.out.other (w.heap.size, #[.int .i64 0, .int .i64 0, .int .i64 0, .int .i64 0, .slice none 0 0, .slice none 0 0, .int .i64 0, .int .i64 0, .string ByteArray.empty, .slice none 0 0], 25) (by simp)
      have f3 : ∀ o, wE.frozen? ⟨w.heap.size, o, none⟩ = false := frozen_of (DE.out.oth (w.heap.size, #[.int .i64 0, .int .i64 0, .int .i64 0, .int .i64 0, .slice none 0 0, .slice none 0 0, .int .i64 0, .int .i64 0, .string ByteArray.empty, .slice none 0 0], 25) (by simp)).1
      go_wp2
      have hs := set10 (DE.out.oth (w.heap.size, #[.int .i64 0, .int .i64 0, .int .i64 0, .int .i64 0, .slice none 0 0, .slice none 0 0, .int .i64 0, .int .i64 0, .string ByteArray.empty, .slice none 0 0], 25) (by simp)).1 (.int .i64 0) (.int .i64 0) (.int .i64 0) (.int .i64 0) (.slice none 0 0) (.slice none 0 0) (.int .i64 0) (.int .i64 0) (.string ⟨#[]⟩) (.slice none 0 0)
      generalize hW : World.setCell _ _ _ = W
      rw [hW] at hs
      clear hW
      (try simp only [Exit.inBlock, Exit.then])
      refine bodyPost_ret (tmp_cell_tmp_res rfl _ _ w.heap.size 25 _ (0, 0) rfl hs.1 rfl) rfl ?_
      exact dec_no_back NO.out (DE.out.lastF (DE.out.oth (w.heap.size, #[.int .i64 0, .int .i64 0, .int .i64 0, .int .i64 0, .slice none 0 0, .slice none 0 0, .int .i64 0, .int .i64 0, .string ByteArray.empty, .slice none 0 0], 25) (by simp)).1 (Nat.le_refl _) hs.2).2
    go_wp2_with fail
    refine (renc_all v1 (⟨5, v3, 0, 0, ByteArray.empty, ByteArray.empty, 0, 0, v4, []⟩ : Rec) (.slice none 0 0) (.slice none 0 0) (.slice none 0 0) wx4 D4b.out.at).mono ?_
    rintro e wE ⟨pE, kE, cE, er, rfl, nE, yE, zE⟩
    have DE := hid (D4b.out.newer qdLaw nE)
    have YE := hid yE
    have ZE := hid zE
    have NE := hid nE
    clear ml fz nE yE zE D4b
    obtain ⟨rfl, hE⟩ := YE.out g
    have qb := qd_bad DE.out.rd
    have HE := hid hE
    have G := hid g
    clear hE g YE ZE
    by_cases q : encB v1 (⟨5, v3, 0, 0, ByteArray.empty, ByteArray.empty, 0, 0, v4, []⟩ : Rec) = l
    case neg =>
      have q1 : cmpS (bytesOf l) (bytesOf (encB v1 (⟨5, v3, 0, 0, ByteArray.empty, ByteArray.empty, 0, 0, v4, []⟩ : Rec))) ≠ 0 := fun e => q (bytesOf_inj ((cmpS_zero _ _).1 e)).symm
      have q2 : (cmpS (bytesOf l) (bytesOf (encB v1 (⟨5, v3, 0, 0, ByteArray.empty, ByteArray.empty, 0, 0, v4, []⟩ : Rec))) == 0) = false := by simpa using q1
      have Q := hid q
      clear q q1
      go_wp2_with fail
      refine (compare_any _ _ _ _ _ (HB.out.renew (DE.out.new)) HE.out).mono ?_
      rintro e wC ⟨rfl, nC⟩
      have DC := hid (DE.out.newer qdLaw nC)
      clear nC qb
      go_upto_region 35 with fail
      clear q2
      have NO : Hid (decOk l = false) := hid (decOk_other HR.out HM.out Q.out)
      have m3 : ∀ o, wC.cell? ⟨w.heap.size, o, none⟩ = #[.int .i64 0, .int .i64 0, .int .i64 0, .int .i64 0, .slice none 0 0, .slice none 0 0, .int .i64 0, .int .i64 0, .string ByteArray.empty, .slice none 0 0][o]? := DC.out.other (w.heap.size, #[.int .i64 0, .int .i64 0, .int .i64 0, .int .i64 0, .slice none 0 0, .slice none 0 0, .int .i64 0, .int .i64 0, .string ByteArray.empty, .slice none 0 0], 25) (by simp)
      have f3 : ∀ o, wC.frozen? ⟨w.heap.size, o, none⟩ = false := frozen_of (DC.out.oth (w.heap.size, #[.int .i64 0, .int .i64 0, .int .i64 0, .int .i64 0, .slice none 0 0, .slice none 0 0, .int .i64 0, .int .i64 0, .string ByteArray.empty, .slice none 0 0], 25) (by simp)).1
      go_wp2
      have hs := set10 (DC.out.oth (w.heap.size, #[.int .i64 0, .int .i64 0, .int .i64 0, .int .i64 0, .slice none 0 0, .slice none 0 0, .int .i64 0, .int .i64 0, .string ByteArray.empty, .slice none 0 0], 25) (by simp)).1 (.int .i64 0) (.int .i64 0) (.int .i64 0) (.int .i64 0) (.slice none 0 0) (.slice none 0 0) (.int .i64 0) (.int .i64 0) (.string ⟨#[]⟩) (.slice none 0 0)
      generalize hW : World.setCell _ _ _ = W
      rw [hW] at hs
      clear hW
      (try simp only [Exit.inBlock, Exit.then])
      refine bodyPost_ret (tmp_cell_tmp_res rfl _ _ w.heap.size 25 _ (0, 0) rfl hs.1 rfl) rfl ?_
      exact dec_no_back NO.out (DC.out.lastF (DC.out.oth (w.heap.size, #[.int .i64 0, .int .i64 0, .int .i64 0, .int .i64 0, .slice none 0 0, .slice none 0 0, .int .i64 0, .int .i64 0, .string ByteArray.empty, .slice none 0 0], 25) (by simp)).1 (Nat.le_refl _) hs.2).2
    have q1 : cmpS (bytesOf l) (bytesOf (encB v1 (⟨5, v3, 0, 0, ByteArray.empty, ByteArray.empty, 0, 0, v4, []⟩ : Rec))) = 0 := (cmpS_zero _ _).2 (by rw [q])
    have q2 : (cmpS (bytesOf l) (bytesOf (encB v1 (⟨5, v3, 0, 0, ByteArray.empty, ByteArray.empty, 0, 0, v4, []⟩ : Rec))) == 0) = true := by simpa using q1
    have OK := hid (decOk_same G.out q)
    clear q q1
    go_wp2_with fail
    refine (compare_any _ _ _ _ _ (HB.out.renew (DE.out.new)) HE.out).mono ?_
    rintro e wC ⟨rfl, nC⟩
    have DC := hid (DE.out.newer qdLaw nC)
    clear nC qb
    go_upto_region 34 with fail
    clear q2
    have ml : ∀ o, wC.cell? ⟨wn.heap.size, o, none⟩ = #[.int .i64 5, .int .i64 v3, .int .i64 0, .int .i64 0, .slice none 0 0, .slice none 0 0, .int .i64 0, .int .i64 0, .string v4, .slice none 0 0][o]? := DC.out.cells
    have fz := DC.out.frozen
    have m3 : ∀ o, wC.cell? ⟨w.heap.size, o, none⟩ = #[.int .i64 0, .int .i64 0, .int .i64 0, .int .i64 0, .slice none 0 0, .slice none 0 0, .int .i64 0, .int .i64 0, .string ByteArray.empty, .slice none 0 0][o]? := DC.out.other (w.heap.size, #[.int .i64 0, .int .i64 0, .int .i64 0, .int .i64 0, .slice none 0 0, .slice none 0 0, .int .i64 0, .int .i64 0, .string ByteArray.empty, .slice none 0 0], 25) (by simp)
    have f3 : ∀ o, wC.frozen? ⟨w.heap.size, o, none⟩ = false := frozen_of (DC.out.oth (w.heap.size, #[.int .i64 0, .int .i64 0, .int .i64 0, .int .i64 0, .slice none 0 0, .slice none 0 0, .int .i64 0, .int .i64 0, .string ByteArray.empty, .slice none 0 0], 25) (by simp)).1
    go_region
    go_wp2
    have hs := set10 (DC.out.oth (w.heap.size, #[.int .i64 0, .int .i64 0, .int .i64 0, .int .i64 0, .slice none 0 0, .slice none 0 0, .int .i64 0, .int .i64 0, .string ByteArray.empty, .slice none 0 0], 25) (by simp)).1 (.int .i64 5) (.int .i64 v3) (.int .i64 0) (.int .i64 0) (.slice none 0 0) (.slice none 0 0) (.int .i64 0) (.int .i64 0) (.string v4) (.slice none 0 0)
    generalize hW : World.setCell _ _ _ = W
    rw [hW] at hs
    clear hW
    (try simp only [Exit.inBlock, Exit.then])
    refine bodyPost_ret (tmp_cell_tmp_res rfl _ _ w.heap.size 25 _ (0, 0) rfl hs.1 rfl) rfl ?_
    have hl := DC.out.lastF (DC.out.oth (w.heap.size, #[.int .i64 0, .int .i64 0, .int .i64 0, .int .i64 0, .slice none 0 0, .slice none 0 0, .int .i64 0, .int .i64 0, .string ByteArray.empty, .slice none 0 0], 25) (by simp)).1 (Nat.le_refl _) hs.2
    exact dec_yes_back OK.out.1 OK.out.2.1 OK.out.2.2 (hl.1.new (New.refl W).drew) hl.2.drew
set_option maxRecDepth 100000 in
set_option maxHeartbeats 8000000 in
theorem rdecode_7 (bv : Value) (l : List UInt8) (w : World) (h : Bytes w bv (bytesOf l)) (hl : l.length ≤ 1000000) (hk : (decHead l).kind = 7) : Calls Try.prog 38 #[bv] w (DecBack l w) := by
  have HB := hid h
  obtain ⟨bp, bc, rfl, b1, b2, _⟩ := h
  rw [bytesOf_size] at b1 HB ⊢
  obtain ⟨v0, s0, E0⟩ : ∃ v t, rdNum (some l) = (v, t) := ⟨_, _, rfl⟩
  obtain ⟨v1, s1, E1⟩ : ∃ v t, rdNum s0 = (v, t) := ⟨_, _, rfl⟩
  obtain ⟨v2, s2, E2⟩ : ∃ v t, rdSmall s1 = (v, t) := ⟨_, _, rfl⟩
  obtain ⟨v3, s3, E3⟩ : ∃ v t, rdNum s2 = (v, t) := ⟨_, _, rfl⟩
  obtain ⟨v4, s4, E4⟩ : ∃ v t, rdText s3 = (v, t) := ⟨_, _, rfl⟩
  have hv2 : v2 = 7 := by simpa [decHead, E0, E1, E2] using hk
  subst hv2
  clear hk
  have HH : Hid (decHead l = ⟨v0, v1, 7, v3, s3⟩) := hid (by simp [decHead, E0, E1, E2, E3])
  have E0 := hid E0
  have E1 := hid E1
  have E2 := hid E2
  have E3 := hid E3
  have E4 := hid E4
  have T4 : Hid (v4.size ≤ 1000000) := hid (rdText_size E4.out)
  go_enter Try.func38, Try.ntmps38
  go_wp2_with fail
  refine (refReader_any _ l _ (HB.out.renew ((New.refl w).alloc _ _)) hl).mono ?_
  rintro e wA ⟨x, rfl, hr, hn, hx⟩
  have hx' : w.heap.size ≤ x := by simp at hx; omega
  have P0 := hid (QP.start hr hn hx')
  clear hr hn hx hx'
  go_wp2_with fail
  refine (qnumber_at x _ _ _ _ E0.out P0.out.rd).mono ?_
  rintro e wr0 ⟨⟨er, rfl⟩, hr, ht⟩
  have P1 := hid (P0.out.read hr ht)
  clear hr ht P0
  go_wp2_with fail
  refine (qnumber_at x _ _ _ _ E1.out P1.out.rd).mono ?_
  rintro e wn ⟨⟨er, rfl⟩, hr, ht⟩
  have P2 := hid (P1.out.read hr ht)
  clear hr ht P1
  go_upto_region 5 with fail
  have DA := hid (P2.out.made)
  clear P2
  generalize wn.alloc (.cells #[.int .i64 0, .int .i64 0, .int .i64 0, .int .i64 0, .slice none 0 0, .slice none 0 0, .int .i64 0, .int .i64 0, .string ⟨#[]⟩, .slice none 0 0] 25) = w1 at DA ⊢
  have ml : ∀ o, w1.cell? ⟨wn.heap.size, o, none⟩ = #[.int .i64 0, .int .i64 0, .int .i64 0, .int .i64 0, .slice none 0 0, .slice none 0 0, .int .i64 0, .int .i64 0, .string ByteArray.empty, .slice none 0 0][o]? := DA.out.cells
  have fz := DA.out.frozen
  go_wp2_with fail
  refine (qsmall_at x _ _ _ _ E2.out DA.out.rd).mono ?_
  rintro e wr2 ⟨⟨er, rfl⟩, hr, ht⟩
  clear ml fz
  have D2a := hid (DA.out.read qdLaw hr ht)
  clear hr ht DA
  have ml : ∀ o, wr2.cell? ⟨wn.heap.size, o, none⟩ = #[.int .i64 0, .int .i64 0, .int .i64 0, .int .i64 0, .slice none 0 0, .slice none 0 0, .int .i64 0, .int .i64 0, .string ByteArray.empty, .slice none 0 0][o]? := D2a.out.cells
  have fz := D2a.out.frozen
  go_upto_region 6 with fail
  clear ml fz
  have D2b := hid (D2a.out.kind qdLaw 7)
  clear D2a
  generalize wr2.setCell ⟨wn.heap.size, 0, none⟩ (.int .i64 7) = wx2 at D2b ⊢
  have ml : ∀ o, wx2.cell? ⟨wn.heap.size, o, none⟩ = #[.int .i64 7, .int .i64 0, .int .i64 0, .int .i64 0, .slice none 0 0, .slice none 0 0, .int .i64 0, .int .i64 0, .string ByteArray.empty, .slice none 0 0][o]? := D2b.out.cells
  have fz := D2b.out.frozen
  go_wp2_with fail
  refine (qnumber_at x _ _ _ _ E3.out D2b.out.rd).mono ?_
  rintro e wr3 ⟨⟨er, rfl⟩, hr, ht⟩
  clear ml fz
  have D3a := hid (D2b.out.read qdLaw hr ht)
  clear hr ht D2b
  have ml : ∀ o, wr3.cell? ⟨wn.heap.size, o, none⟩ = #[.int .i64 7, .int .i64 0, .int .i64 0, .int .i64 0, .slice none 0 0, .slice none 0 0, .int .i64 0, .int .i64 0, .string ByteArray.empty, .slice none 0 0][o]? := D3a.out.cells
  have fz := D3a.out.frozen
  go_upto_region 7 with fail
  clear ml fz
  have D3b := hid (D3a.out.unit qdLaw v3)
  clear D3a
  generalize wr3.setCell ⟨wn.heap.size, 1, none⟩ (.int .i64 v3) = wx3 at D3b ⊢
  have ml : ∀ o, wx3.cell? ⟨wn.heap.size, o, none⟩ = #[.int .i64 7, .int .i64 v3, .int .i64 0, .int .i64 0, .slice none 0 0, .slice none 0 0, .int .i64 0, .int .i64 0, .string ByteArray.empty, .slice none 0 0][o]? := D3b.out.cells
  have fz := D3b.out.frozen
  go_upto_region 21 with fail
  clear ml fz
  have ml : ∀ o, wx3.cell? ⟨wn.heap.size, o, none⟩ = #[.int .i64 7, .int .i64 v3, .int .i64 0, .int .i64 0, .slice none 0 0, .slice none 0 0, .int .i64 0, .int .i64 0, .string ByteArray.empty, .slice none 0 0][o]? := D3b.out.cells
  have fz := D3b.out.frozen
  go_wp2_with fail
  refine (qtext_at x _ _ _ _ E4.out D3b.out.rd).mono ?_
  rintro e wr4 ⟨⟨er, rfl⟩, hr, ht⟩
  clear ml fz
  have D4a := hid (D3b.out.read qdLaw hr ht)
  clear hr ht D3b
  have ml : ∀ o, wr4.cell? ⟨wn.heap.size, o, none⟩ = #[.int .i64 7, .int .i64 v3, .int .i64 0, .int .i64 0, .slice none 0 0, .slice none 0 0, .int .i64 0, .int .i64 0, .string ByteArray.empty, .slice none 0 0][o]? := D4a.out.cells
  have fz := D4a.out.frozen
  go_upto_region 32 with fail
  clear ml fz
  have D4b := hid (D4a.out.text qdLaw v4)
  clear D4a
  generalize wr4.setCell ⟨wn.heap.size, 8, none⟩ (.string v4) = wx4 at D4b ⊢
  have HR : Hid (decRec l = ((⟨7, v3, 0, 0, ByteArray.empty, ByteArray.empty, 0, 0, v4, []⟩ : Rec), s4)) := hid (by simp [decRec, HH.out, decRest, recK, E4.out])
  have HM : Hid ((decHead l).num = v1) := hid (by rw [HH.out])
  clear E0 E1 E2 E3 E4 HH
  have ml : ∀ o, wx4.cell? ⟨wn.heap.size, o, none⟩ = #[.int .i64 7, .int .i64 v3, .int .i64 0, .int .i64 0, .slice none 0 0, .slice none 0 0, .int .i64 0, .int .i64 0, .string v4, .slice none 0 0][o]? := D4b.out.cells
  have fz := D4b.out.frozen
  cases s4 with
  | none =>
    go_wp2_with fail
    refine (renc_all v1 (⟨7, v3, 0, 0, ByteArray.empty, ByteArray.empty, 0, 0, v4, []⟩ : Rec) (.slice none 0 0) (.slice none 0 0) (.slice none 0 0) wx4 D4b.out.at).mono ?_
    rintro e wE ⟨pE, kE, cE, er, rfl, nE, yE, zE⟩
    have DE := hid (D4b.out.newer qdLaw nE)
    have YE := hid yE
    have ZE := hid zE
    have NE := hid nE
    clear ml fz nE yE zE D4b
    have qb := qd_bad_none DE.out.rd
    go_upto_region 35 with fail
    clear qb
    have NO : Hid (decOk l = false) := hid (decOk_none HR.out)
    have m3 : ∀ o, wE.cell? ⟨w.heap.size, o, none⟩ = #[.int .i64 0, .int .i64 0, .int .i64 0, .int .i64 0, .slice none 0 0, .slice none 0 0, .int .i64 0, .int .i64 0, .string ByteArray.empty, .slice none 0 0][o]? := DE.out.other (w.heap.size, #[.int .i64 0, .int .i64 0, .int .i64 0, .int .i64 0, .slice none 0 0, .slice none 0 0, .int .i64 0, .int .i64 0, .string ByteArray.empty, .slice none 0 0], 25) (by simp)
    have f3 : ∀ o, wE.frozen? ⟨w.heap.size, o, none⟩ = false := frozen_of (DE.out.oth (w.heap.size, #[.int .i64 0, .int .i64 0, .int .i64 0, .int .i64 0, .slice none 0 0, .slice none 0 0, .int .i64 0, .int .i64 0, .string ByteArray.empty, .slice none 0 0], 25) (by simp)).1
    go_wp2
    have hs := set10 (DE.out.oth (w.heap.size, #[.int .i64 0, .int .i64 0, .int .i64 0, .int .i64 0, .slice none 0 0, .slice none 0 0, .int .i64 0, .int .i64 0, .string ByteArray.empty, .slice none 0 0], 25) (by simp)).1 (.int .i64 0) (.int .i64 0) (.int .i64 0) (.int .i64 0) (.slice none 0 0) (.slice none 0 0) (.int .i64 0) (.int .i64 0) (.string ⟨#[]⟩) (.slice none 0 0)
    generalize hW : World.setCell _ _ _ = W
    rw [hW] at hs
    clear hW
    (try simp only [Exit.inBlock, Exit.then])
    refine bodyPost_ret (tmp_cell_tmp_res rfl _ _ w.heap.size 25 _ (0, 0) rfl hs.1 rfl) rfl ?_
    exact dec_no_back NO.out (DE.out.lastF (DE.out.oth (w.heap.size, #[.int .i64 0, .int .i64 0, .int .i64 0, .int .i64 0, .slice none 0 0, .slice none 0 0, .int .i64 0, .int .i64 0, .string ByteArray.empty, .slice none 0 0], 25) (by simp)).1 (Nat.le_refl _) hs.2).2
  | some sm =>
    by_cases g : (validB (⟨7, v3, 0, 0, ByteArray.empty, ByteArray.empty, 0, 0, v4, []⟩ : Rec) && wi 1 v1 1000000) = true
    case neg =>
      have g : (validB (⟨7, v3, 0, 0, ByteArray.empty, ByteArray.empty, 0, 0, v4, []⟩ : Rec) && wi 1 v1 1000000) = false := by simpa using g
      go_wp2_with fail
      refine (renc_all v1 (⟨7, v3, 0, 0, ByteArray.empty, ByteArray.empty, 0, 0, v4, []⟩ : Rec) (.slice none 0 0) (.slice none 0 0) (.slice none 0 0) wx4 D4b.out.at).mono ?_
      rintro e wE ⟨pE, kE, cE, er, rfl, nE, yE, zE⟩
      have DE := hid (D4b.out.newer qdLaw nE)
      have YE := hid yE
      have ZE := hid zE
      have NE := hid nE
      clear ml fz nE yE zE D4b
      obtain rfl := ZE.out g
      have qb := qd_bad DE.out.rd
      go_upto_region 35 with fail
      clear qb
      have NO : Hid (decOk l = false) := hid (decOk_bad HR.out HM.out g)
      have m3 : ∀ o, wE.cell? ⟨w.heap.size, o, none⟩ = #[.int .i64 0, .int .i64 0, .int .i64 0, .int .i64 0, .slice none 0 0, .slice none 0 0, .int .i64 0, .int .i64 0, .string ByteArray.empty, .slice none 0 0][o]? := DE.out.other (w.heap.size, #[.int .i64 0, .int .i64 0, .int .i64 0, .int .i64 0, .slice none 0 0, .slice none 0 0, .int .i64 0, .int .i64 0, .string ByteArray.empty, .slice none 0 0], 25) (by simp)
      have f3 : ∀ o, wE.frozen? ⟨w.heap.size, o, none⟩ = false := frozen_of (DE.out.oth (w.heap.size, #[.int .i64 0, .int .i64 0, .int .i64 0, .int .i64 0, .slice none 0 0, .slice none 0 0, .int .i64 0, .int .i64 0, .string ByteArray.empty, .slice none 0 0], 25) (by simp)).1
      go_wp2
      have hs := set10 (DE.out.oth (w.heap.size, #[.int .i64 0, .int .i64 0, .int .i64 0, .int .i64 0, .slice none 0 0, .slice none 0 0, .int .i64 0, .int .i64 0, .string ByteArray.empty, .slice none 0 0], 25) (by simp)).1 (.int .i64 0) (.int .i64 0) (.int .i64 0) (.int .i64 0) (.slice none 0 0) (.slice none 0 0) (.int .i64 0) (.int .i64 0) (.string ⟨#[]⟩) (.slice none 0 0)
      generalize hW : World.setCell _ _ _ = W
      rw [hW] at hs
      clear hW
      (try simp only [Exit.inBlock, Exit.then])
      refine bodyPost_ret (tmp_cell_tmp_res rfl _ _ w.heap.size 25 _ (0, 0) rfl hs.1 rfl) rfl ?_
      exact dec_no_back NO.out (DE.out.lastF (DE.out.oth (w.heap.size, #[.int .i64 0, .int .i64 0, .int .i64 0, .int .i64 0, .slice none 0 0, .slice none 0 0, .int .i64 0, .int .i64 0, .string ByteArray.empty, .slice none 0 0], 25) (by simp)).1 (Nat.le_refl _) hs.2).2
    go_wp2_with fail
    refine (renc_all v1 (⟨7, v3, 0, 0, ByteArray.empty, ByteArray.empty, 0, 0, v4, []⟩ : Rec) (.slice none 0 0) (.slice none 0 0) (.slice none 0 0) wx4 D4b.out.at).mono ?_
    rintro e wE ⟨pE, kE, cE, er, rfl, nE, yE, zE⟩
    have DE := hid (D4b.out.newer qdLaw nE)
    have YE := hid yE
    have ZE := hid zE
    have NE := hid nE
    clear ml fz nE yE zE D4b
    obtain ⟨rfl, hE⟩ := YE.out g
    have qb := qd_bad DE.out.rd
    have HE := hid hE
    have G := hid g
    clear hE g YE ZE
    by_cases q : encB v1 (⟨7, v3, 0, 0, ByteArray.empty, ByteArray.empty, 0, 0, v4, []⟩ : Rec) = l
    case neg =>
      have q1 : cmpS (bytesOf l) (bytesOf (encB v1 (⟨7, v3, 0, 0, ByteArray.empty, ByteArray.empty, 0, 0, v4, []⟩ : Rec))) ≠ 0 := fun e => q (bytesOf_inj ((cmpS_zero _ _).1 e)).symm
      have q2 : (cmpS (bytesOf l) (bytesOf (encB v1 (⟨7, v3, 0, 0, ByteArray.empty, ByteArray.empty, 0, 0, v4, []⟩ : Rec))) == 0) = false := by simpa using q1
      have Q := hid q
      clear q q1
      go_wp2_with fail
      refine (compare_any _ _ _ _ _ (HB.out.renew (DE.out.new)) HE.out).mono ?_
      rintro e wC ⟨rfl, nC⟩
      have DC := hid (DE.out.newer qdLaw nC)
      clear nC qb
      go_upto_region 35 with fail
      clear q2
      have NO : Hid (decOk l = false) := hid (decOk_other HR.out HM.out Q.out)
      have m3 : ∀ o, wC.cell? ⟨w.heap.size, o, none⟩ = #[.int .i64 0, .int .i64 0, .int .i64 0, .int .i64 0, .slice none 0 0, .slice none 0 0, .int .i64 0, .int .i64 0, .string ByteArray.empty, .slice none 0 0][o]? := DC.out.other (w.heap.size, #[.int .i64 0, .int .i64 0, .int .i64 0, .int .i64 0, .slice none 0 0, .slice none 0 0, .int .i64 0, .int .i64 0, .string ByteArray.empty, .slice none 0 0], 25) (by simp)
      have f3 : ∀ o, wC.frozen? ⟨w.heap.size, o, none⟩ = false := frozen_of (DC.out.oth (w.heap.size, #[.int .i64 0, .int .i64 0, .int .i64 0, .int .i64 0, .slice none 0 0, .slice none 0 0, .int .i64 0, .int .i64 0, .string ByteArray.empty, .slice none 0 0], 25) (by simp)).1
      go_wp2
      have hs := set10 (DC.out.oth (w.heap.size, #[.int .i64 0, .int .i64 0, .int .i64 0, .int .i64 0, .slice none 0 0, .slice none 0 0, .int .i64 0, .int .i64 0, .string ByteArray.empty, .slice none 0 0], 25) (by simp)).1 (.int .i64 0) (.int .i64 0) (.int .i64 0) (.int .i64 0) (.slice none 0 0) (.slice none 0 0) (.int .i64 0) (.int .i64 0) (.string ⟨#[]⟩) (.slice none 0 0)
      generalize hW : World.setCell _ _ _ = W
      rw [hW] at hs
      clear hW
      (try simp only [Exit.inBlock, Exit.then])
      refine bodyPost_ret (tmp_cell_tmp_res rfl _ _ w.heap.size 25 _ (0, 0) rfl hs.1 rfl) rfl ?_
      exact dec_no_back NO.out (DC.out.lastF (DC.out.oth (w.heap.size, #[.int .i64 0, .int .i64 0, .int .i64 0, .int .i64 0, .slice none 0 0, .slice none 0 0, .int .i64 0, .int .i64 0, .string ByteArray.empty, .slice none 0 0], 25) (by simp)).1 (Nat.le_refl _) hs.2).2
    have q1 : cmpS (bytesOf l) (bytesOf (encB v1 (⟨7, v3, 0, 0, ByteArray.empty, ByteArray.empty, 0, 0, v4, []⟩ : Rec))) = 0 := (cmpS_zero _ _).2 (by rw [q])
    have q2 : (cmpS (bytesOf l) (bytesOf (encB v1 (⟨7, v3, 0, 0, ByteArray.empty, ByteArray.empty, 0, 0, v4, []⟩ : Rec))) == 0) = true := by simpa using q1
    have OK := hid (decOk_same G.out q)
    clear q q1
    go_wp2_with fail
    refine (compare_any _ _ _ _ _ (HB.out.renew (DE.out.new)) HE.out).mono ?_
    rintro e wC ⟨rfl, nC⟩
    have DC := hid (DE.out.newer qdLaw nC)
    clear nC qb
    go_upto_region 34 with fail
    clear q2
    have ml : ∀ o, wC.cell? ⟨wn.heap.size, o, none⟩ = #[.int .i64 7, .int .i64 v3, .int .i64 0, .int .i64 0, .slice none 0 0, .slice none 0 0, .int .i64 0, .int .i64 0, .string v4, .slice none 0 0][o]? := DC.out.cells
    have fz := DC.out.frozen
    have m3 : ∀ o, wC.cell? ⟨w.heap.size, o, none⟩ = #[.int .i64 0, .int .i64 0, .int .i64 0, .int .i64 0, .slice none 0 0, .slice none 0 0, .int .i64 0, .int .i64 0, .string ByteArray.empty, .slice none 0 0][o]? := DC.out.other (w.heap.size, #[.int .i64 0, .int .i64 0, .int .i64 0, .int .i64 0, .slice none 0 0, .slice none 0 0, .int .i64 0, .int .i64 0, .string ByteArray.empty, .slice none 0 0], 25) (by simp)
    have f3 : ∀ o, wC.frozen? ⟨w.heap.size, o, none⟩ = false := frozen_of (DC.out.oth (w.heap.size, #[.int .i64 0, .int .i64 0, .int .i64 0, .int .i64 0, .slice none 0 0, .slice none 0 0, .int .i64 0, .int .i64 0, .string ByteArray.empty, .slice none 0 0], 25) (by simp)).1
    go_region
    go_wp2
    have hs := set10 (DC.out.oth (w.heap.size, #[.int .i64 0, .int .i64 0, .int .i64 0, .int .i64 0, .slice none 0 0, .slice none 0 0, .int .i64 0, .int .i64 0, .string ByteArray.empty, .slice none 0 0], 25) (by simp)).1 (.int .i64 7) (.int .i64 v3) (.int .i64 0) (.int .i64 0) (.slice none 0 0) (.slice none 0 0) (.int .i64 0) (.int .i64 0) (.string v4) (.slice none 0 0)
    generalize hW : World.setCell _ _ _ = W
    rw [hW] at hs
    clear hW
    (try simp only [Exit.inBlock, Exit.then])
    refine bodyPost_ret (tmp_cell_tmp_res rfl _ _ w.heap.size 25 _ (0, 0) rfl hs.1 rfl) rfl ?_
    have hl := DC.out.lastF (DC.out.oth (w.heap.size, #[.int .i64 0, .int .i64 0, .int .i64 0, .int .i64 0, .slice none 0 0, .slice none 0 0, .int .i64 0, .int .i64 0, .string ByteArray.empty, .slice none 0 0], 25) (by simp)).1 (Nat.le_refl _) hs.2
    exact dec_yes_back OK.out.1 OK.out.2.1 OK.out.2.2 (hl.1.new (New.refl W).drew) hl.2.drew
set_option maxRecDepth 100000 in
set_option maxHeartbeats 8000000 in
theorem rdecode_0 (bv : Value) (l : List UInt8) (w : World) (h : Bytes w bv (bytesOf l)) (hl : l.length ≤ 1000000) (hk : (decHead l).kind ≠ 1 ∧ (decHead l).kind ≠ 2 ∧ (decHead l).kind ≠ 5 ∧ (decHead l).kind ≠ 7 ∧ (decHead l).kind ≠ 6) : Calls Try.prog 38 #[bv] w (DecBack l w) := by
  have HB := hid h
  obtain ⟨bp, bc, rfl, b1, b2, _⟩ := h
  rw [bytesOf_size] at b1 HB ⊢
  obtain ⟨v0, s0, E0⟩ : ∃ v t, rdNum (some l) = (v, t) := ⟨_, _, rfl⟩
  obtain ⟨v1, s1, E1⟩ : ∃ v t, rdNum s0 = (v, t) := ⟨_, _, rfl⟩
  obtain ⟨v2, s2, E2⟩ : ∃ v t, rdSmall s1 = (v, t) := ⟨_, _, rfl⟩
  obtain ⟨v3, s3, E3⟩ : ∃ v t, rdNum s2 = (v, t) := ⟨_, _, rfl⟩
  have hv2 : (decHead l).kind = v2 := by simp [decHead, E0, E1, E2]
  rw [hv2] at hk
  clear hv2
  have k1 : (v2 == 1) = false := by simpa using hk.1
  have k2 : (v2 == 2) = false := by simpa using hk.2.1
  have k5 : (v2 == 5) = false := by simpa using hk.2.2.1
  have k7 : (v2 == 7) = false := by simpa using hk.2.2.2.1
  have k6 : (v2 == 6) = false := by simpa using hk.2.2.2.2
  have KK := hid hk
  clear hk
  have HH : Hid (decHead l = ⟨v0, v1, v2, v3, s3⟩) := hid (by simp [decHead, E0, E1, E2, E3])
  have E0 := hid E0
  have E1 := hid E1
  have E2 := hid E2
  have E3 := hid E3
  go_enter Try.func38, Try.ntmps38
  go_wp2_with fail
  refine (refReader_any _ l _ (HB.out.renew ((New.refl w).alloc _ _)) hl).mono ?_
  rintro e wA ⟨x, rfl, hr, hn, hx⟩
  have hx' : w.heap.size ≤ x := by simp at hx; omega
  have P0 := hid (QP.start hr hn hx')
  clear hr hn hx hx'
  go_wp2_with fail
  refine (qnumber_at x _ _ _ _ E0.out P0.out.rd).mono ?_
  rintro e wr0 ⟨⟨er, rfl⟩, hr, ht⟩
  have P1 := hid (P0.out.read hr ht)
  clear hr ht P0
  go_wp2_with fail
  refine (qnumber_at x _ _ _ _ E1.out P1.out.rd).mono ?_
  rintro e wn ⟨⟨er, rfl⟩, hr, ht⟩
  have P2 := hid (P1.out.read hr ht)
  clear hr ht P1
  go_upto_region 5 with fail
  have DA := hid (P2.out.made)
  clear P2
  generalize wn.alloc (.cells #[.int .i64 0, .int .i64 0, .int .i64 0, .int .i64 0, .slice none 0 0, .slice none 0 0, .int .i64 0, .int .i64 0, .string ⟨#[]⟩, .slice none 0 0] 25) = w1 at DA ⊢
  have ml : ∀ o, w1.cell? ⟨wn.heap.size, o, none⟩ = #[.int .i64 0, .int .i64 0, .int .i64 0, .int .i64 0, .slice none 0 0, .slice none 0 0, .int .i64 0, .int .i64 0, .string ByteArray.empty, .slice none 0 0][o]? := DA.out.cells
  have fz := DA.out.frozen
  go_wp2_with fail
  refine (qsmall_at x _ _ _ _ E2.out DA.out.rd).mono ?_
  rintro e wr2 ⟨⟨er, rfl⟩, hr, ht⟩
  clear ml fz
  have D2a := hid (DA.out.read qdLaw hr ht)
  clear hr ht DA
  have ml : ∀ o, wr2.cell? ⟨wn.heap.size, o, none⟩ = #[.int .i64 0, .int .i64 0, .int .i64 0, .int .i64 0, .slice none 0 0, .slice none 0 0, .int .i64 0, .int .i64 0, .string ByteArray.empty, .slice none 0 0][o]? := D2a.out.cells
  have fz := D2a.out.frozen
  go_upto_region 6 with fail
  clear ml fz
  have D2b := hid (D2a.out.kind qdLaw v2)
  clear D2a
  generalize wr2.setCell ⟨wn.heap.size, 0, none⟩ (.int .i64 v2) = wx2 at D2b ⊢
  have ml : ∀ o, wx2.cell? ⟨wn.heap.size, o, none⟩ = #[.int .i64 v2, .int .i64 0, .int .i64 0, .int .i64 0, .slice none 0 0, .slice none 0 0, .int .i64 0, .int .i64 0, .string ByteArray.empty, .slice none 0 0][o]? := D2b.out.cells
  have fz := D2b.out.frozen
  go_wp2_with fail
  refine (qnumber_at x _ _ _ _ E3.out D2b.out.rd).mono ?_
  rintro e wr3 ⟨⟨er, rfl⟩, hr, ht⟩
  clear ml fz
  have D3a := hid (D2b.out.read qdLaw hr ht)
  clear hr ht D2b
  have ml : ∀ o, wr3.cell? ⟨wn.heap.size, o, none⟩ = #[.int .i64 v2, .int .i64 0, .int .i64 0, .int .i64 0, .slice none 0 0, .slice none 0 0, .int .i64 0, .int .i64 0, .string ByteArray.empty, .slice none 0 0][o]? := D3a.out.cells
  have fz := D3a.out.frozen
  go_upto_region 7 with fail
  clear ml fz
  have D3b := hid (D3a.out.unit qdLaw v3)
  clear D3a
  generalize wr3.setCell ⟨wn.heap.size, 1, none⟩ (.int .i64 v3) = wx3 at D3b ⊢
  have ml : ∀ o, wx3.cell? ⟨wn.heap.size, o, none⟩ = #[.int .i64 v2, .int .i64 v3, .int .i64 0, .int .i64 0, .slice none 0 0, .slice none 0 0, .int .i64 0, .int .i64 0, .string ByteArray.empty, .slice none 0 0][o]? := D3b.out.cells
  have fz := D3b.out.frozen
  go_upto_region 32 with fail
  clear ml fz
  have HR : Hid (decRec l = ((⟨v2, v3, 0, 0, ByteArray.empty, ByteArray.empty, 0, 0, ByteArray.empty, []⟩ : Rec), s3)) := hid (by simp [decRec, HH.out, decRest, recK, KK.out])
  have HM : Hid ((decHead l).num = v1) := hid (by rw [HH.out])
  clear E0 E1 E2 E3 HH
  have ml : ∀ o, wx3.cell? ⟨wn.heap.size, o, none⟩ = #[.int .i64 v2, .int .i64 v3, .int .i64 0, .int .i64 0, .slice none 0 0, .slice none 0 0, .int .i64 0, .int .i64 0, .string ByteArray.empty, .slice none 0 0][o]? := D3b.out.cells
  have fz := D3b.out.frozen
  cases s3 with
  | none =>
    go_wp2_with fail
    refine (renc_all v1 (⟨v2, v3, 0, 0, ByteArray.empty, ByteArray.empty, 0, 0, ByteArray.empty, []⟩ : Rec) (.slice none 0 0) (.slice none 0 0) (.slice none 0 0) wx3 D3b.out.at).mono ?_
    rintro e wE ⟨pE, kE, cE, er, rfl, nE, yE, zE⟩
    have DE := hid (D3b.out.newer qdLaw nE)
    have YE := hid yE
    have ZE := hid zE
    have NE := hid nE
    clear ml fz nE yE zE D3b
    have qb := qd_bad_none DE.out.rd
    go_upto_region 35 with fail
    clear qb
    have NO : Hid (decOk l = false) := hid (decOk_none HR.out)
    have m3 : ∀ o, wE.cell? ⟨w.heap.size, o, none⟩ = #[.int .i64 0, .int .i64 0, .int .i64 0, .int .i64 0, .slice none 0 0, .slice none 0 0, .int .i64 0, .int .i64 0, .string ByteArray.empty, .slice none 0 0][o]? := DE.out.other (w.heap.size, #[.int .i64 0, .int .i64 0, .int .i64 0, .int .i64 0, .slice none 0 0, .slice none 0 0, .int .i64 0, .int .i64 0, .string ByteArray.empty, .slice none 0 0], 25) (by simp)
    have f3 : ∀ o, wE.frozen? ⟨w.heap.size, o, none⟩ = false := frozen_of (DE.out.oth (w.heap.size, #[.int .i64 0, .int .i64 0, .int .i64 0, .int .i64 0, .slice none 0 0, .slice none 0 0, .int .i64 0, .int .i64 0, .string ByteArray.empty, .slice none 0 0], 25) (by simp)).1
    go_wp2
    have hs := set10 (DE.out.oth (w.heap.size, #[.int .i64 0, .int .i64 0, .int .i64 0, .int .i64 0, .slice none 0 0, .slice none 0 0, .int .i64 0, .int .i64 0, .string ByteArray.empty, .slice none 0 0], 25) (by simp)).1 (.int .i64 0) (.int .i64 0) (.int .i64 0) (.int .i64 0) (.slice none 0 0) (.slice none 0 0) (.int .i64 0) (.int .i64 0) (.string ⟨#[]⟩) (.slice none 0 0)
    generalize hW : World.setCell _ _ _ = W
    rw [hW] at hs
    clear hW
    (try simp only [Exit.inBlock, Exit.then])
    refine bodyPost_ret (tmp_cell_tmp_res rfl _ _ w.heap.size 25 _ (0, 0) rfl hs.1 rfl) rfl ?_
    exact dec_no_back NO.out (DE.out.lastF (DE.out.oth (w.heap.size, #[.int .i64 0, .int .i64 0, .int .i64 0, .int .i64 0, .slice none 0 0, .slice none 0 0, .int .i64 0, .int .i64 0, .string ByteArray.empty, .slice none 0 0], 25) (by simp)).1 (Nat.le_refl _) hs.2).2
  | some sm =>
    by_cases g : (validB (⟨v2, v3, 0, 0, ByteArray.empty, ByteArray.empty, 0, 0, ByteArray.empty, []⟩ : Rec) && wi 1 v1 1000000) = true
    case neg =>
      have g : (validB (⟨v2, v3, 0, 0, ByteArray.empty, ByteArray.empty, 0, 0, ByteArray.empty, []⟩ : Rec) && wi 1 v1 1000000) = false := by simpa using g
      go_wp2_with fail
      refine (renc_all v1 (⟨v2, v3, 0, 0, ByteArray.empty, ByteArray.empty, 0, 0, ByteArray.empty, []⟩ : Rec) (.slice none 0 0) (.slice none 0 0) (.slice none 0 0) wx3 D3b.out.at).mono ?_
      rintro e wE ⟨pE, kE, cE, er, rfl, nE, yE, zE⟩
      have DE := hid (D3b.out.newer qdLaw nE)
      have YE := hid yE
      have ZE := hid zE
      have NE := hid nE
      clear ml fz nE yE zE D3b
      obtain rfl := ZE.out g
      have qb := qd_bad DE.out.rd
      go_upto_region 35 with fail
      clear qb
      have NO : Hid (decOk l = false) := hid (decOk_bad HR.out HM.out g)
      have m3 : ∀ o, wE.cell? ⟨w.heap.size, o, none⟩ = #[.int .i64 0, .int .i64 0, .int .i64 0, .int .i64 0, .slice none 0 0, .slice none 0 0, .int .i64 0, .int .i64 0, .string ByteArray.empty, .slice none 0 0][o]? := DE.out.other (w.heap.size, #[.int .i64 0, .int .i64 0, .int .i64 0, .int .i64 0, .slice none 0 0, .slice none 0 0, .int .i64 0, .int .i64 0, .string ByteArray.empty, .slice none 0 0], 25) (by simp)
      have f3 : ∀ o, wE.frozen? ⟨w.heap.size, o, none⟩ = false := frozen_of (DE.out.oth (w.heap.size, #[.int .i64 0, .int .i64 0, .int .i64 0, .int .i64 0, .slice none 0 0, .slice none 0 0, .int .i64 0, .int .i64 0, .string ByteArray.empty, .slice none 0 0], 25) (by simp)).1
      go_wp2
      have hs := set10 (DE.out.oth (w.heap.size, #[.int .i64 0, .int .i64 0, .int .i64 0, .int .i64 0, .slice none 0 0, .slice none 0 0, .int .i64 0, .int .i64 0, .string ByteArray.empty, .slice none 0 0], 25) (by simp)).1 (.int .i64 0) (.int .i64 0) (.int .i64 0) (.int .i64 0) (.slice none 0 0) (.slice none 0 0) (.int .i64 0) (.int .i64 0) (.string ⟨#[]⟩) (.slice none 0 0)
      generalize hW : World.setCell _ _ _ = W
      rw [hW] at hs
      clear hW
      (try simp only [Exit.inBlock, Exit.then])
      refine bodyPost_ret (tmp_cell_tmp_res rfl _ _ w.heap.size 25 _ (0, 0) rfl hs.1 rfl) rfl ?_
      exact dec_no_back NO.out (DE.out.lastF (DE.out.oth (w.heap.size, #[.int .i64 0, .int .i64 0, .int .i64 0, .int .i64 0, .slice none 0 0, .slice none 0 0, .int .i64 0, .int .i64 0, .string ByteArray.empty, .slice none 0 0], 25) (by simp)).1 (Nat.le_refl _) hs.2).2
    go_wp2_with fail
    refine (renc_all v1 (⟨v2, v3, 0, 0, ByteArray.empty, ByteArray.empty, 0, 0, ByteArray.empty, []⟩ : Rec) (.slice none 0 0) (.slice none 0 0) (.slice none 0 0) wx3 D3b.out.at).mono ?_
    rintro e wE ⟨pE, kE, cE, er, rfl, nE, yE, zE⟩
    have DE := hid (D3b.out.newer qdLaw nE)
    have YE := hid yE
    have ZE := hid zE
    have NE := hid nE
    clear ml fz nE yE zE D3b
    obtain ⟨rfl, hE⟩ := YE.out g
    have qb := qd_bad DE.out.rd
    have HE := hid hE
    have G := hid g
    clear hE g YE ZE
    by_cases q : encB v1 (⟨v2, v3, 0, 0, ByteArray.empty, ByteArray.empty, 0, 0, ByteArray.empty, []⟩ : Rec) = l
    case neg =>
      have q1 : cmpS (bytesOf l) (bytesOf (encB v1 (⟨v2, v3, 0, 0, ByteArray.empty, ByteArray.empty, 0, 0, ByteArray.empty, []⟩ : Rec))) ≠ 0 := fun e => q (bytesOf_inj ((cmpS_zero _ _).1 e)).symm
      have q2 : (cmpS (bytesOf l) (bytesOf (encB v1 (⟨v2, v3, 0, 0, ByteArray.empty, ByteArray.empty, 0, 0, ByteArray.empty, []⟩ : Rec))) == 0) = false := by simpa using q1
      have Q := hid q
      clear q q1
      go_wp2_with fail
      refine (compare_any _ _ _ _ _ (HB.out.renew (DE.out.new)) HE.out).mono ?_
      rintro e wC ⟨rfl, nC⟩
      have DC := hid (DE.out.newer qdLaw nC)
      clear nC qb
      go_upto_region 35 with fail
      clear q2
      have NO : Hid (decOk l = false) := hid (decOk_other HR.out HM.out Q.out)
      have m3 : ∀ o, wC.cell? ⟨w.heap.size, o, none⟩ = #[.int .i64 0, .int .i64 0, .int .i64 0, .int .i64 0, .slice none 0 0, .slice none 0 0, .int .i64 0, .int .i64 0, .string ByteArray.empty, .slice none 0 0][o]? := DC.out.other (w.heap.size, #[.int .i64 0, .int .i64 0, .int .i64 0, .int .i64 0, .slice none 0 0, .slice none 0 0, .int .i64 0, .int .i64 0, .string ByteArray.empty, .slice none 0 0], 25) (by simp)
      have f3 : ∀ o, wC.frozen? ⟨w.heap.size, o, none⟩ = false := frozen_of (DC.out.oth (w.heap.size, #[.int .i64 0, .int .i64 0, .int .i64 0, .int .i64 0, .slice none 0 0, .slice none 0 0, .int .i64 0, .int .i64 0, .string ByteArray.empty, .slice none 0 0], 25) (by simp)).1
      go_wp2
      have hs := set10 (DC.out.oth (w.heap.size, #[.int .i64 0, .int .i64 0, .int .i64 0, .int .i64 0, .slice none 0 0, .slice none 0 0, .int .i64 0, .int .i64 0, .string ByteArray.empty, .slice none 0 0], 25) (by simp)).1 (.int .i64 0) (.int .i64 0) (.int .i64 0) (.int .i64 0) (.slice none 0 0) (.slice none 0 0) (.int .i64 0) (.int .i64 0) (.string ⟨#[]⟩) (.slice none 0 0)
      generalize hW : World.setCell _ _ _ = W
      rw [hW] at hs
      clear hW
      (try simp only [Exit.inBlock, Exit.then])
      refine bodyPost_ret (tmp_cell_tmp_res rfl _ _ w.heap.size 25 _ (0, 0) rfl hs.1 rfl) rfl ?_
      exact dec_no_back NO.out (DC.out.lastF (DC.out.oth (w.heap.size, #[.int .i64 0, .int .i64 0, .int .i64 0, .int .i64 0, .slice none 0 0, .slice none 0 0, .int .i64 0, .int .i64 0, .string ByteArray.empty, .slice none 0 0], 25) (by simp)).1 (Nat.le_refl _) hs.2).2
    have q1 : cmpS (bytesOf l) (bytesOf (encB v1 (⟨v2, v3, 0, 0, ByteArray.empty, ByteArray.empty, 0, 0, ByteArray.empty, []⟩ : Rec))) = 0 := (cmpS_zero _ _).2 (by rw [q])
    have q2 : (cmpS (bytesOf l) (bytesOf (encB v1 (⟨v2, v3, 0, 0, ByteArray.empty, ByteArray.empty, 0, 0, ByteArray.empty, []⟩ : Rec))) == 0) = true := by simpa using q1
    have OK := hid (decOk_same G.out q)
    clear q q1
    go_wp2_with fail
    refine (compare_any _ _ _ _ _ (HB.out.renew (DE.out.new)) HE.out).mono ?_
    rintro e wC ⟨rfl, nC⟩
    have DC := hid (DE.out.newer qdLaw nC)
    clear nC qb
    go_upto_region 34 with fail
    clear q2
    have ml : ∀ o, wC.cell? ⟨wn.heap.size, o, none⟩ = #[.int .i64 v2, .int .i64 v3, .int .i64 0, .int .i64 0, .slice none 0 0, .slice none 0 0, .int .i64 0, .int .i64 0, .string ByteArray.empty, .slice none 0 0][o]? := DC.out.cells
    have fz := DC.out.frozen
    have m3 : ∀ o, wC.cell? ⟨w.heap.size, o, none⟩ = #[.int .i64 0, .int .i64 0, .int .i64 0, .int .i64 0, .slice none 0 0, .slice none 0 0, .int .i64 0, .int .i64 0, .string ByteArray.empty, .slice none 0 0][o]? := DC.out.other (w.heap.size, #[.int .i64 0, .int .i64 0, .int .i64 0, .int .i64 0, .slice none 0 0, .slice none 0 0, .int .i64 0, .int .i64 0, .string ByteArray.empty, .slice none 0 0], 25) (by simp)
    have f3 : ∀ o, wC.frozen? ⟨w.heap.size, o, none⟩ = false := frozen_of (DC.out.oth (w.heap.size, #[.int .i64 0, .int .i64 0, .int .i64 0, .int .i64 0, .slice none 0 0, .slice none 0 0, .int .i64 0, .int .i64 0, .string ByteArray.empty, .slice none 0 0], 25) (by simp)).1
    go_region
    go_wp2
    have hs := set10 (DC.out.oth (w.heap.size, #[.int .i64 0, .int .i64 0, .int .i64 0, .int .i64 0, .slice none 0 0, .slice none 0 0, .int .i64 0, .int .i64 0, .string ByteArray.empty, .slice none 0 0], 25) (by simp)).1 (.int .i64 v2) (.int .i64 v3) (.int .i64 0) (.int .i64 0) (.slice none 0 0) (.slice none 0 0) (.int .i64 0) (.int .i64 0) (.string ByteArray.empty) (.slice none 0 0)
    generalize hW : World.setCell _ _ _ = W
    rw [hW] at hs
    clear hW
    (try simp only [Exit.inBlock, Exit.then])
    refine bodyPost_ret (tmp_cell_tmp_res rfl _ _ w.heap.size 25 _ (0, 0) rfl hs.1 rfl) rfl ?_
    have hl := DC.out.lastF (DC.out.oth (w.heap.size, #[.int .i64 0, .int .i64 0, .int .i64 0, .int .i64 0, .slice none 0 0, .slice none 0 0, .int .i64 0, .int .i64 0, .string ByteArray.empty, .slice none 0 0], 25) (by simp)).1 (Nat.le_refl _) hs.2
    exact dec_yes_back OK.out.1 OK.out.2.1 OK.out.2.2 (hl.1.new (New.refl W).drew) hl.2.drew

end Go.Proofs.Ytbclgklpcbajfaa
