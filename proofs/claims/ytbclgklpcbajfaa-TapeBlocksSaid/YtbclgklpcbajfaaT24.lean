/- What progenyref03.Decode returns at a mark, and at each block (printed by rdec6.py). -/
import Derived.Test.YtbclgklpcbajfaaT23
namespace Go.Proofs.Ytbclgklpcbajfaa
open Go.RowKit
set_option linter.unusedSimpArgs false
set_option linter.unusedVariables false

theorem rdOpens_bad {k n : Nat} {s : RS} (h : k ≤ n) (hb : (rdOpens k s).2 = none) : (rdOpens n s).2 = none := by
  induction n with
  | zero => obtain rfl : k = 0 := by omega
            exact hb
  | succ n ih =>
    rcases Nat.lt_or_ge n k with hh | hh
    · obtain rfl : k = n + 1 := by omega
      exact hb
    · rw [rdOpens_snoc, ih hh]
      rfl
set_option maxRecDepth 100000 in
set_option maxHeartbeats 8000000 in
theorem rdecode_6 (bv : Value) (l : List UInt8) (w : World) (h : Bytes w bv (bytesOf l)) (hl : l.length ≤ 1000000) (hk : (decHead l).kind = 6) : Calls Try.prog 38 #[bv] w (DecBack l w) := by
  have HB := hid h
  obtain ⟨bp, bc, rfl, b1, b2, _⟩ := h
  rw [bytesOf_size] at b1 HB ⊢
  obtain ⟨v0, s0, E0⟩ : ∃ v t, rdNum (some l) = (v, t) := ⟨_, _, rfl⟩
  obtain ⟨v1, s1, E1⟩ : ∃ v t, rdNum s0 = (v, t) := ⟨_, _, rfl⟩
  obtain ⟨v2, s2, E2⟩ : ∃ v t, rdSmall s1 = (v, t) := ⟨_, _, rfl⟩
  obtain ⟨v3, s3, E3⟩ : ∃ v t, rdNum s2 = (v, t) := ⟨_, _, rfl⟩
  obtain ⟨v4, s4, E4⟩ : ∃ v t, rdSmall s3 = (v, t) := ⟨_, _, rfl⟩
  have l4 := rdSmall_lt s3
  rw [E4] at l4
  obtain ⟨n4, rfl⟩ : ∃ n : Nat, v4 = (n : Int) := ⟨v4.toNat, by simp at l4; omega⟩
  have b4 : n4 ≤ 255 := by simp at l4; omega
  clear l4
  have E4 := hid E4
  have hv2 : v2 = 6 := by simpa [decHead, E0, E1, E2] using hk
  subst hv2
  clear hk
  have HH : Hid (decHead l = ⟨v0, v1, 6, v3, s3⟩) := hid (by simp [decHead, E0, E1, E2, E3])
  have E0 := hid E0
  have E1 := hid E1
  have E2 := hid E2
  have E3 := hid E3
  go_enter Try.func38, Try.ntmps38
  go_wp2_with fail
  refine (refReader_any _ l _ (HB.out.renew ((New.refl w).alloc _ _)) hl).mono ?_
  rintro e wA ⟨x, rfl, hr, hn, hx⟩
  have hx' : w.heap.size ≤ x := by simp at hx; omega
  have P0 := hid (QP.start hr hn hx')
  clear hr hn hx hx'
  go_wp2_with fail
  refine (qnumber_at x _ _ _ _ E0.out P0.out.rd).mono ?_
  rintro e wr0 ⟨⟨er, rfl⟩, hr, ht⟩
  have P1 := hid (P0.out.read hr ht)
  clear hr ht P0
  go_wp2_with fail
  refine (qnumber_at x _ _ _ _ E1.out P1.out.rd).mono ?_
  rintro e wn ⟨⟨er, rfl⟩, hr, ht⟩
  have P2 := hid (P1.out.read hr ht)
  clear hr ht P1
  go_upto_region 5 with fail
  have DA := hid (P2.out.made)
  clear P2
  generalize wn.alloc (.cells #[.int .i64 0, .int .i64 0, .int .i64 0, .int .i64 0, .slice none 0 0, .slice none 0 0, .int .i64 0, .int .i64 0, .string ⟨#[]⟩, .slice none 0 0] 25) = w1 at DA ⊢
  have ml : ∀ o, w1.cell? ⟨wn.heap.size, o, none⟩ = #[.int .i64 0, .int .i64 0, .int .i64 0, .int .i64 0, .slice none 0 0, .slice none 0 0, .int .i64 0, .int .i64 0, .string ByteArray.empty, .slice none 0 0][o]? := DA.out.cells
  have fz := DA.out.frozen
  go_wp2_with fail
  refine (qsmall_at x _ _ _ _ E2.out DA.out.rd).mono ?_
  rintro e wr2 ⟨⟨er, rfl⟩, hr, ht⟩
  clear ml fz
  have D2a := hid (DA.out.read qdLaw hr ht)
  clear hr ht DA
  have ml : ∀ o, wr2.cell? ⟨wn.heap.size, o, none⟩ = #[.int .i64 0, .int .i64 0, .int .i64 0, .int .i64 0, .slice none 0 0, .slice none 0 0, .int .i64 0, .int .i64 0, .string ByteArray.empty, .slice none 0 0][o]? := D2a.out.cells
  have fz := D2a.out.frozen
  go_upto_region 6 with fail
  clear ml fz
  have D2b := hid (D2a.out.kind qdLaw 6)
  clear D2a
  generalize wr2.setCell ⟨wn.heap.size, 0, none⟩ (.int .i64 6) = wx2 at D2b ⊢
  have ml : ∀ o, wx2.cell? ⟨wn.heap.size, o, none⟩ = #[.int .i64 6, .int .i64 0, .int .i64 0, .int .i64 0, .slice none 0 0, .slice none 0 0, .int .i64 0, .int .i64 0, .string ByteArray.empty, .slice none 0 0][o]? := D2b.out.cells
  have fz := D2b.out.frozen
  go_wp2_with fail
  refine (qnumber_at x _ _ _ _ E3.out D2b.out.rd).mono ?_
  rintro e wr3 ⟨⟨er, rfl⟩, hr, ht⟩
  clear ml fz
  have D3a := hid (D2b.out.read qdLaw hr ht)
  clear hr ht D2b
  have ml : ∀ o, wr3.cell? ⟨wn.heap.size, o, none⟩ = #[.int .i64 6, .int .i64 0, .int .i64 0, .int .i64 0, .slice none 0 0, .slice none 0 0, .int .i64 0, .int .i64 0, .string ByteArray.empty, .slice none 0 0][o]? := D3a.out.cells
  have fz := D3a.out.frozen
  go_upto_region 7 with fail
  clear ml fz
  have D3b := hid (D3a.out.unit qdLaw v3)
  clear D3a
  generalize wr3.setCell ⟨wn.heap.size, 1, none⟩ (.int .i64 v3) = wx3 at D3b ⊢
  have ml : ∀ o, wx3.cell? ⟨wn.heap.size, o, none⟩ = #[.int .i64 6, .int .i64 v3, .int .i64 0, .int .i64 0, .slice none 0 0, .slice none 0 0, .int .i64 0, .int .i64 0, .string ByteArray.empty, .slice none 0 0][o]? := D3b.out.cells
  have fz := D3b.out.frozen
  go_upto_region 23 with fail
  clear ml fz
  have ml : ∀ o, wx3.cell? ⟨wn.heap.size, o, none⟩ = #[.int .i64 6, .int .i64 v3, .int .i64 0, .int .i64 0, .slice none 0 0, .slice none 0 0, .int .i64 0, .int .i64 0, .string ByteArray.empty, .slice none 0 0][o]? := D3b.out.cells
  have fz := D3b.out.frozen
  go_wp2_with fail
  refine (qsmall_at x _ _ _ _ E4.out D3b.out.rd).mono ?_
  rintro e wm ⟨⟨er, rfl⟩, hr, ht⟩
  clear ml fz
  have DM := hid (D3b.out.read qdLaw hr ht)
  clear hr ht D3b
  have ml : ∀ o, wm.cell? ⟨wn.heap.size, o, none⟩ = #[.int .i64 6, .int .i64 v3, .int .i64 0, .int .i64 0, .slice none 0 0, .slice none 0 0, .int .i64 0, .int .i64 0, .string ByteArray.empty, .slice none 0 0][o]? := DM.out.cells
  have fz := DM.out.frozen
  go_wp2
  clear ml fz
  go_loopw [15, 16] (fun i _ wr => ∃ k : Nat, k ≤ n4 ∧ i = .int .i64 k ∧ Hid (∃ uv, DS QdAt [(w.heap.size, #[.int .i64 0, .int .i64 0, .int .i64 0, .int .i64 0, .slice none 0 0, .slice none 0 0, .int .i64 0, .int .i64 0, .string ByteArray.empty, .slice none 0 0], 25)] w wr wn.heap.size x (⟨6, v3, 0, 0, ByteArray.empty, ByteArray.empty, 0, 0, ByteArray.empty, (rdOpens k s4).1⟩ : Rec) (.slice none 0 0) (.slice none 0 0) uv (rdOpens k s4).2)) (fun i _ _ => n4 - (intOf i).toNat)
  case atStart => exact ⟨0, Nat.zero_le _, rfl, ⟨_, DM.out⟩⟩
  case round =>
    obtain ⟨k, hk, rfl, hyp⟩ := hrel
    obtain ⟨uv, D⟩ := hyp.out
    clear hyp
    obtain ⟨up, uc, rfl⟩ : ∃ up uc, uv = .slice up k uc := by
      have h := D.un
      rw [rdOpens_length] at h
      obtain ⟨A, c, e⟩ := own_len h
      exact ⟨A, c, e⟩
    have D := hid D
    by_cases hlt : k < n4
    case neg =>
      obtain rfl : k = n4 := by omega
      obtain ⟨us, sE, EO⟩ : ∃ us sE, rdOpens k s4 = (us, sE) := ⟨_, _, rfl⟩
      rw [EO] at D
      dsimp only at D
      have HR : Hid (decRec l = ((⟨6, v3, 0, 0, ByteArray.empty, ByteArray.empty, 0, 0, ByteArray.empty, us⟩ : Rec), sE)) := hid (by simp [decRec, HH.out, decRest, recK, E4.out, EO])
      have HM : Hid ((decHead l).num = v1) := hid (by rw [HH.out])
      clear E0 E1 E2 E3 E4 HH b4 hk EO
      cases sE with
      | none =>
        have qb := qd_bad_none D.out.rd
        go_upto_region 32 with fail
        clear qb
        have ml : ∀ o, wr.cell? ⟨wn.heap.size, o, none⟩ = #[.int .i64 6, .int .i64 v3, .int .i64 0, .int .i64 0, .slice none 0 0, .slice none 0 0, .int .i64 0, .int .i64 0, .string ByteArray.empty, .slice up k uc][o]? := D.out.cells
        have fz := D.out.frozen
        go_wp2_with fail
        refine (renc_all v1 (⟨6, v3, 0, 0, ByteArray.empty, ByteArray.empty, 0, 0, ByteArray.empty, us⟩ : Rec) (.slice none 0 0) (.slice none 0 0) (.slice up k uc) wr D.out.at).mono ?_
        rintro e wE ⟨pE, kE, cE, er, rfl, nE, yE, zE⟩
        have DE := hid (D.out.newer qdLaw nE)
        have YE := hid yE
        have ZE := hid zE
        have NE := hid nE
        clear ml fz nE yE zE D
        have qb := qd_bad_none DE.out.rd
        go_upto_region 35 with fail
        clear qb
        have NO : Hid (decOk l = false) := hid (decOk_none HR.out)
        have m3 : ∀ o, wE.cell? ⟨w.heap.size, o, none⟩ = #[.int .i64 0, .int .i64 0, .int .i64 0, .int .i64 0, .slice none 0 0, .slice none 0 0, .int .i64 0, .int .i64 0, .string ByteArray.empty, .slice none 0 0][o]? := DE.out.other (w.heap.size, #[.int .i64 0, .int .i64 0, .int .i64 0, .int .i64 0, .slice none 0 0, .slice none 0 0, .int .i64 0, .int .i64 0, .string ByteArray.empty, .slice none 0 0], 25) (by simp)
        have f3 : ∀ o, wE.frozen? ⟨w.heap.size, o, none⟩ = false := frozen_of (DE.out.oth (w.heap.size, #[.int .i64 0, .int .i64 0, .int .i64 0, .int .i64 0, .slice none 0 0, .slice none 0 0, .int .i64 0, .int .i64 0, .string ByteArray.empty, .slice none 0 0], 25) (by simp)).1
        go_wp2
        have hs := set10 (DE.out.oth (w.heap.size, #[.int .i64 0, .int .i64 0, .int .i64 0, .int .i64 0, .slice none 0 0, .slice none 0 0, .int .i64 0, .int .i64 0, .string ByteArray.empty, .slice none 0 0], 25) (by simp)).1 (.int .i64 0) (.int .i64 0) (.int .i64 0) (.int .i64 0) (.slice none 0 0) (.slice none 0 0) (.int .i64 0) (.int .i64 0) (.string ⟨#[]⟩) (.slice none 0 0)
        generalize hW : World.setCell _ _ _ = W
        rw [hW] at hs
        clear hW
        (try simp only [Exit.inBlock, Exit.then])
        refine bodyPost_ret (tmp_cell_tmp_res rfl _ _ w.heap.size 25 _ (0, 0) rfl hs.1 rfl) rfl ?_
        exact dec_no_back NO.out (DE.out.lastF (DE.out.oth (w.heap.size, #[.int .i64 0, .int .i64 0, .int .i64 0, .int .i64 0, .slice none 0 0, .slice none 0 0, .int .i64 0, .int .i64 0, .string ByteArray.empty, .slice none 0 0], 25) (by simp)).1 (Nat.le_refl _) hs.2).2
      | some sm =>
        have qb := qd_bad D.out.rd
        go_upto_region 32 with fail
        clear qb
        have ml : ∀ o, wr.cell? ⟨wn.heap.size, o, none⟩ = #[.int .i64 6, .int .i64 v3, .int .i64 0, .int .i64 0, .slice none 0 0, .slice none 0 0, .int .i64 0, .int .i64 0, .string ByteArray.empty, .slice up k uc][o]? := D.out.cells
        have fz := D.out.frozen
        by_cases g : (validB (⟨6, v3, 0, 0, ByteArray.empty, ByteArray.empty, 0, 0, ByteArray.empty, us⟩ : Rec) && wi 1 v1 1000000) = true
        case neg =>
          have g : (validB (⟨6, v3, 0, 0, ByteArray.empty, ByteArray.empty, 0, 0, ByteArray.empty, us⟩ : Rec) && wi 1 v1 1000000) = false := by simpa using g
          go_wp2_with fail
          refine (renc_all v1 (⟨6, v3, 0, 0, ByteArray.empty, ByteArray.empty, 0, 0, ByteArray.empty, us⟩ : Rec) (.slice none 0 0) (.slice none 0 0) (.slice up k uc) wr D.out.at).mono ?_
          rintro e wE ⟨pE, kE, cE, er, rfl, nE, yE, zE⟩
          have DE := hid (D.out.newer qdLaw nE)
          have YE := hid yE
          have ZE := hid zE
          have NE := hid nE
          clear ml fz nE yE zE D
          obtain rfl := ZE.out g
          have qb := qd_bad DE.out.rd
          go_upto_region 35 with fail
          clear qb
          have NO : Hid (decOk l = false) := hid (decOk_bad HR.out HM.out g)
          have m3 : ∀ o, wE.cell? ⟨w.heap.size, o, none⟩ = #[.int .i64 0, .int .i64 0, .int .i64 0, .int .i64 0, .slice none 0 0, .slice none 0 0, .int .i64 0, .int .i64 0, .string ByteArray.empty, .slice none 0 0][o]? := DE.out.other (w.heap.size, #[.int .i64 0, .int .i64 0, .int .i64 0, .int .i64 0, .slice none 0 0, .slice none 0 0, .int .i64 0, .int .i64 0, .string ByteArray.empty, .slice none 0 0], 25) (by simp)
          have f3 : ∀ o, wE.frozen? ⟨w.heap.size, o, none⟩ = false := frozen_of (DE.out.oth (w.heap.size, #[.int .i64 0, .int .i64 0, .int .i64 0, .int .i64 0, .slice none 0 0, .slice none 0 0, .int .i64 0, .int .i64 0, .string ByteArray.empty, .slice none 0 0], 25) (by simp)).1
          go_wp2
          have hs := set10 (DE.out.oth (w.heap.size, #[.int .i64 0, .int .i64 0, .int .i64 0, .int .i64 0, .slice none 0 0, .slice none 0 0, .int .i64 0, .int .i64 0, .string ByteArray.empty, .slice none 0 0], 25) (by simp)).1 (.int .i64 0) (.int .i64 0) (.int .i64 0) (.int .i64 0) (.slice none 0 0) (.slice none 0 0) (.int .i64 0) (.int .i64 0) (.string ⟨#[]⟩) (.slice none 0 0)
          generalize hW : World.setCell _ _ _ = W
          rw [hW] at hs
          clear hW
          (try simp only [Exit.inBlock, Exit.then])
          refine bodyPost_ret (tmp_cell_tmp_res rfl _ _ w.heap.size 25 _ (0, 0) rfl hs.1 rfl) rfl ?_
          exact dec_no_back NO.out (DE.out.lastF (DE.out.oth (w.heap.size, #[.int .i64 0, .int .i64 0, .int .i64 0, .int .i64 0, .slice none 0 0, .slice none 0 0, .int .i64 0, .int .i64 0, .string ByteArray.empty, .slice none 0 0], 25) (by simp)).1 (Nat.le_refl _) hs.2).2
        go_wp2_with fail
        refine (renc_all v1 (⟨6, v3, 0, 0, ByteArray.empty, ByteArray.empty, 0, 0, ByteArray.empty, us⟩ : Rec) (.slice none 0 0) (.slice none 0 0) (.slice up k uc) wr D.out.at).mono ?_
        rintro e wE ⟨pE, kE, cE, er, rfl, nE, yE, zE⟩
        have DE := hid (D.out.newer qdLaw nE)
        have YE := hid yE
        have ZE := hid zE
        have NE := hid nE
        clear ml fz nE yE zE D
        obtain ⟨rfl, hE⟩ := YE.out g
        have qb := qd_bad DE.out.rd
        have HE := hid hE
        have G := hid g
        clear hE g YE ZE
        by_cases q : encB v1 (⟨6, v3, 0, 0, ByteArray.empty, ByteArray.empty, 0, 0, ByteArray.empty, us⟩ : Rec) = l
        case neg =>
          have q1 : cmpS (bytesOf l) (bytesOf (encB v1 (⟨6, v3, 0, 0, ByteArray.empty, ByteArray.empty, 0, 0, ByteArray.empty, us⟩ : Rec))) ≠ 0 := fun e => q (bytesOf_inj ((cmpS_zero _ _).1 e)).symm
          have q2 : (cmpS (bytesOf l) (bytesOf (encB v1 (⟨6, v3, 0, 0, ByteArray.empty, ByteArray.empty, 0, 0, ByteArray.empty, us⟩ : Rec))) == 0) = false := by simpa using q1
          have Q := hid q
          clear q q1
          go_wp2_with fail
          refine (compare_any _ _ _ _ _ (HB.out.renew (DE.out.new)) HE.out).mono ?_
          rintro e wC ⟨rfl, nC⟩
          have DC := hid (DE.out.newer qdLaw nC)
          clear nC qb
          go_upto_region 35 with fail
          clear q2
          have NO : Hid (decOk l = false) := hid (decOk_other HR.out HM.out Q.out)
          have m3 : ∀ o, wC.cell? ⟨w.heap.size, o, none⟩ = #[.int .i64 0, .int .i64 0, .int .i64 0, .int .i64 0, .slice none 0 0, .slice none 0 0, .int .i64 0, .int .i64 0, .string ByteArray.empty, .slice none 0 0][o]? := DC.out.other (w.heap.size, #[.int .i64 0, .int .i64 0, .int .i64 0, .int .i64 0, .slice none 0 0, .slice none 0 0, .int .i64 0, .int .i64 0, .string ByteArray.empty, .slice none 0 0], 25) (by simp)
          have f3 : ∀ o, wC.frozen? ⟨w.heap.size, o, none⟩ = false := frozen_of (DC.out.oth (w.heap.size, #[.int .i64 0, .int .i64 0, .int .i64 0, .int .i64 0, .slice none 0 0, .slice none 0 0, .int .i64 0, .int .i64 0, .string ByteArray.empty, .slice none 0 0], 25) (by simp)).1
          go_wp2
          have hs := set10 (DC.out.oth (w.heap.size, #[.int .i64 0, .int .i64 0, .int .i64 0, .int .i64 0, .slice none 0 0, .slice none 0 0, .int .i64 0, .int .i64 0, .string ByteArray.empty, .slice none 0 0], 25) (by simp)).1 (.int .i64 0) (.int .i64 0) (.int .i64 0) (.int .i64 0) (.slice none 0 0) (.slice none 0 0) (.int .i64 0) (.int .i64 0) (.string ⟨#[]⟩) (.slice none 0 0)
          generalize hW : World.setCell _ _ _ = W
          rw [hW] at hs
          clear hW
          (try simp only [Exit.inBlock, Exit.then])
          refine bodyPost_ret (tmp_cell_tmp_res rfl _ _ w.heap.size 25 _ (0, 0) rfl hs.1 rfl) rfl ?_
          exact dec_no_back NO.out (DC.out.lastF (DC.out.oth (w.heap.size, #[.int .i64 0, .int .i64 0, .int .i64 0, .int .i64 0, .slice none 0 0, .slice none 0 0, .int .i64 0, .int .i64 0, .string ByteArray.empty, .slice none 0 0], 25) (by simp)).1 (Nat.le_refl _) hs.2).2
        have q1 : cmpS (bytesOf l) (bytesOf (encB v1 (⟨6, v3, 0, 0, ByteArray.empty, ByteArray.empty, 0, 0, ByteArray.empty, us⟩ : Rec))) = 0 := (cmpS_zero _ _).2 (by rw [q])
        have q2 : (cmpS (bytesOf l) (bytesOf (encB v1 (⟨6, v3, 0, 0, ByteArray.empty, ByteArray.empty, 0, 0, ByteArray.empty, us⟩ : Rec))) == 0) = true := by simpa using q1
        have OK := hid (decOk_same G.out q)
        clear q q1
        go_wp2_with fail
        refine (compare_any _ _ _ _ _ (HB.out.renew (DE.out.new)) HE.out).mono ?_
        rintro e wC ⟨rfl, nC⟩
        have DC := hid (DE.out.newer qdLaw nC)
        clear nC qb
        go_upto_region 34 with fail
        clear q2
        have ml : ∀ o, wC.cell? ⟨wn.heap.size, o, none⟩ = #[.int .i64 6, .int .i64 v3, .int .i64 0, .int .i64 0, .slice none 0 0, .slice none 0 0, .int .i64 0, .int .i64 0, .string ByteArray.empty, .slice up k uc][o]? := DC.out.cells
        have fz := DC.out.frozen
        have m3 : ∀ o, wC.cell? ⟨w.heap.size, o, none⟩ = #[.int .i64 0, .int .i64 0, .int .i64 0, .int .i64 0, .slice none 0 0, .slice none 0 0, .int .i64 0, .int .i64 0, .string ByteArray.empty, .slice none 0 0][o]? := DC.out.other (w.heap.size, #[.int .i64 0, .int .i64 0, .int .i64 0, .int .i64 0, .slice none 0 0, .slice none 0 0, .int .i64 0, .int .i64 0, .string ByteArray.empty, .slice none 0 0], 25) (by simp)
        have f3 : ∀ o, wC.frozen? ⟨w.heap.size, o, none⟩ = false := frozen_of (DC.out.oth (w.heap.size, #[.int .i64 0, .int .i64 0, .int .i64 0, .int .i64 0, .slice none 0 0, .slice none 0 0, .int .i64 0, .int .i64 0, .string ByteArray.empty, .slice none 0 0], 25) (by simp)).1
        go_region
        go_wp2
        have hs := set10 (DC.out.oth (w.heap.size, #[.int .i64 0, .int .i64 0, .int .i64 0, .int .i64 0, .slice none 0 0, .slice none 0 0, .int .i64 0, .int .i64 0, .string ByteArray.empty, .slice none 0 0], 25) (by simp)).1 (.int .i64 6) (.int .i64 v3) (.int .i64 0) (.int .i64 0) (.slice none 0 0) (.slice none 0 0) (.int .i64 0) (.int .i64 0) (.string ByteArray.empty) (.slice up k uc)
        generalize hW : World.setCell _ _ _ = W
        rw [hW] at hs
        clear hW
        (try simp only [Exit.inBlock, Exit.then])
        refine bodyPost_ret (tmp_cell_tmp_res rfl _ _ w.heap.size 25 _ (0, 0) rfl hs.1 rfl) rfl ?_
        have hl := DC.out.lastF (DC.out.oth (w.heap.size, #[.int .i64 0, .int .i64 0, .int .i64 0, .int .i64 0, .slice none 0 0, .slice none 0 0, .int .i64 0, .int .i64 0, .string ByteArray.empty, .slice none 0 0], 25) (by simp)).1 (Nat.le_refl _) hs.2
        exact dec_yes_back OK.out.1 OK.out.2.1 OK.out.2.2 (hl.1.new (New.refl W).drew) hl.2.drew
    case pos =>
      cases hsk : (rdOpens k s4).2 with
      | none =>
        have hne : (rdOpens n4 s4).2 = none := rdOpens_bad (Nat.le_of_lt hlt) hsk
        obtain ⟨us', sE', EO'⟩ : ∃ us sE, rdOpens n4 s4 = (us, sE) := ⟨_, _, rfl⟩
        rw [EO'] at hne
        have hne : sE' = none := hne
        subst hne
        obtain ⟨us, EU⟩ : ∃ us, (rdOpens k s4).1 = us := ⟨_, rfl⟩
        rw [hsk, EU] at D
        have HR' : Hid (decRec l = ((⟨6, v3, 0, 0, ByteArray.empty, ByteArray.empty, 0, 0, ByteArray.empty, us'⟩ : Rec), none)) := hid (by simp [decRec, HH.out, decRest, recK, E4.out, EO'])
        clear E0 E1 E2 E3 E4 HH b4 hk EO' hsk EU
        have qb := qd_bad_none D.out.rd
        go_upto_region 32 with fail
        clear qb
        have HR := HR'
        have ml : ∀ o, wr.cell? ⟨wn.heap.size, o, none⟩ = #[.int .i64 6, .int .i64 v3, .int .i64 0, .int .i64 0, .slice none 0 0, .slice none 0 0, .int .i64 0, .int .i64 0, .string ByteArray.empty, .slice up k uc][o]? := D.out.cells
        have fz := D.out.frozen
        go_wp2_with fail
        refine (renc_all v1 (⟨6, v3, 0, 0, ByteArray.empty, ByteArray.empty, 0, 0, ByteArray.empty, us⟩ : Rec) (.slice none 0 0) (.slice none 0 0) (.slice up k uc) wr D.out.at).mono ?_
        rintro e wE ⟨pE, kE, cE, er, rfl, nE, yE, zE⟩
        have DE := hid (D.out.newer qdLaw nE)
        have YE := hid yE
        have ZE := hid zE
        have NE := hid nE
        clear ml fz nE yE zE D
        have qb := qd_bad_none DE.out.rd
        go_upto_region 35 with fail
        clear qb
        have NO : Hid (decOk l = false) := hid (decOk_none HR.out)
        have m3 : ∀ o, wE.cell? ⟨w.heap.size, o, none⟩ = #[.int .i64 0, .int .i64 0, .int .i64 0, .int .i64 0, .slice none 0 0, .slice none 0 0, .int .i64 0, .int .i64 0, .string ByteArray.empty, .slice none 0 0][o]? := DE.out.other (w.heap.size, #[.int .i64 0, .int .i64 0, .int .i64 0, .int .i64 0, .slice none 0 0, .slice none 0 0, .int .i64 0, .int .i64 0, .string ByteArray.empty, .slice none 0 0], 25) (by simp)
        have f3 : ∀ o, wE.frozen? ⟨w.heap.size, o, none⟩ = false := frozen_of (DE.out.oth (w.heap.size, #[.int .i64 0, .int .i64 0, .int .i64 0, .int .i64 0, .slice none 0 0, .slice none 0 0, .int .i64 0, .int .i64 0, .string ByteArray.empty, .slice none 0 0], 25) (by simp)).1
        go_wp2
        have hs := set10 (DE.out.oth (w.heap.size, #[.int .i64 0, .int .i64 0, .int .i64 0, .int .i64 0, .slice none 0 0, .slice none 0 0, .int .i64 0, .int .i64 0, .string ByteArray.empty, .slice none 0 0], 25) (by simp)).1 (.int .i64 0) (.int .i64 0) (.int .i64 0) (.int .i64 0) (.slice none 0 0) (.slice none 0 0) (.int .i64 0) (.int .i64 0) (.string ⟨#[]⟩) (.slice none 0 0)
        generalize hW : World.setCell _ _ _ = W
        rw [hW] at hs
        clear hW
        (try simp only [Exit.inBlock, Exit.then])
        refine bodyPost_ret (tmp_cell_tmp_res rfl _ _ w.heap.size 25 _ (0, 0) rfl hs.1 rfl) rfl ?_
        exact dec_no_back NO.out (DE.out.lastF (DE.out.oth (w.heap.size, #[.int .i64 0, .int .i64 0, .int .i64 0, .int .i64 0, .slice none 0 0, .slice none 0 0, .int .i64 0, .int .i64 0, .string ByteArray.empty, .slice none 0 0], 25) (by simp)).1 (Nat.le_refl _) hs.2).2
      | some sk =>
        have D := hid (show DS QdAt [(w.heap.size, #[.int .i64 0, .int .i64 0, .int .i64 0, .int .i64 0, .slice none 0 0, .slice none 0 0, .int .i64 0, .int .i64 0, .string ByteArray.empty, .slice none 0 0], 25)] w wr wn.heap.size x (⟨6, v3, 0, 0, ByteArray.empty, ByteArray.empty, 0, 0, ByteArray.empty, (rdOpens k s4).1⟩ : Rec) (.slice none 0 0) (.slice none 0 0) (.slice up k uc) (some sk) by have h := D.out; rw [hsk] at h; exact h)
        obtain ⟨a0, t0, A0⟩ : ∃ v t, rdNum (some sk) = (v, t) := ⟨_, _, rfl⟩
        obtain ⟨a1, t1, A1⟩ : ∃ v t, rdNum t0 = (v, t) := ⟨_, _, rfl⟩
        obtain ⟨a2, t2, A2⟩ : ∃ v t, rdText t1 = (v, t) := ⟨_, _, rfl⟩
        have HN := hid (rdOpens_next (show rdNum (rdOpens k s4).2 = (a0, t0) by rw [hsk]; exact A0) A1 A2)
        have A0 := hid A0
        have A1 := hid A1
        have A2 := hid A2
        have qb := qd_bad D.out.rd
        clear hsk
        go_upto_region 28 with fail
        clear qb
        have U0 := hid (DU.start qdLaw D.out #[.int .i64 0, .int .i64 0, .string ⟨#[]⟩])
        generalize wr.alloc (.cells #[.int .i64 0, .int .i64 0, .string ⟨#[]⟩] 90) = wu0 at U0 ⊢
        have ml : ∀ o, wu0.cell? ⟨wn.heap.size, o, none⟩ = #[.int .i64 6, .int .i64 v3, .int .i64 0, .int .i64 0, .slice none 0 0, .slice none 0 0, .int .i64 0, .int .i64 0, .string ByteArray.empty, .slice up k uc][o]? := U0.out.ds.cells
        have fz := U0.out.ds.frozen
        have cu : ∀ o, wu0.cell? ⟨wr.heap.size, o, none⟩ = #[.int .i64 0, .int .i64 0, .string ⟨#[]⟩][o]? := U0.out.ucells
        have fu := U0.out.ufrozen
        go_wp2_with fail
        refine (qnumber_at x _ _ _ _ A0.out U0.out.ds.rd).mono ?_
        rintro e wv0 ⟨⟨er, rfl⟩, hr, ht⟩
        clear ml fz cu fu
        have V0 := hid (U0.out.read qdLaw hr ht)
        clear hr ht U0
        have ml : ∀ o, wv0.cell? ⟨wn.heap.size, o, none⟩ = #[.int .i64 6, .int .i64 v3, .int .i64 0, .int .i64 0, .slice none 0 0, .slice none 0 0, .int .i64 0, .int .i64 0, .string ByteArray.empty, .slice up k uc][o]? := V0.out.ds.cells
        have fz := V0.out.ds.frozen
        have cu : ∀ o, wv0.cell? ⟨wr.heap.size, o, none⟩ = #[.int .i64 0, .int .i64 0, .string ⟨#[]⟩][o]? := V0.out.ucells
        have fu := V0.out.ufrozen
        go_upto_region 29 with fail
        clear ml fz cu fu
        have U1 := hid (V0.out.put qdLaw 0 (.int .i64 a0) #[.int .i64 a0, .int .i64 0, .string ⟨#[]⟩] rfl)
        clear V0
        generalize wv0.setCell ⟨wr.heap.size, 0, none⟩ (.int .i64 a0) = wu1 at U1 ⊢
        have ml : ∀ o, wu1.cell? ⟨wn.heap.size, o, none⟩ = #[.int .i64 6, .int .i64 v3, .int .i64 0, .int .i64 0, .slice none 0 0, .slice none 0 0, .int .i64 0, .int .i64 0, .string ByteArray.empty, .slice up k uc][o]? := U1.out.ds.cells
        have fz := U1.out.ds.frozen
        have cu : ∀ o, wu1.cell? ⟨wr.heap.size, o, none⟩ = #[.int .i64 a0, .int .i64 0, .string ⟨#[]⟩][o]? := U1.out.ucells
        have fu := U1.out.ufrozen
        go_wp2_with fail
        refine (qnumber_at x _ _ _ _ A1.out U1.out.ds.rd).mono ?_
        rintro e wv1 ⟨⟨er, rfl⟩, hr, ht⟩
        clear ml fz cu fu
        have V1 := hid (U1.out.read qdLaw hr ht)
        clear hr ht U1
        have ml : ∀ o, wv1.cell? ⟨wn.heap.size, o, none⟩ = #[.int .i64 6, .int .i64 v3, .int .i64 0, .int .i64 0, .slice none 0 0, .slice none 0 0, .int .i64 0, .int .i64 0, .string ByteArray.empty, .slice up k uc][o]? := V1.out.ds.cells
        have fz := V1.out.ds.frozen
        have cu : ∀ o, wv1.cell? ⟨wr.heap.size, o, none⟩ = #[.int .i64 a0, .int .i64 0, .string ⟨#[]⟩][o]? := V1.out.ucells
        have fu := V1.out.ufrozen
        go_upto_region 30 with fail
        clear ml fz cu fu
        have U2 := hid (V1.out.put qdLaw 1 (.int .i64 a1) #[.int .i64 a0, .int .i64 a1, .string ⟨#[]⟩] rfl)
        clear V1
        generalize wv1.setCell ⟨wr.heap.size, 1, none⟩ (.int .i64 a1) = wu2 at U2 ⊢
        have ml : ∀ o, wu2.cell? ⟨wn.heap.size, o, none⟩ = #[.int .i64 6, .int .i64 v3, .int .i64 0, .int .i64 0, .slice none 0 0, .slice none 0 0, .int .i64 0, .int .i64 0, .string ByteArray.empty, .slice up k uc][o]? := U2.out.ds.cells
        have fz := U2.out.ds.frozen
        have cu : ∀ o, wu2.cell? ⟨wr.heap.size, o, none⟩ = #[.int .i64 a0, .int .i64 a1, .string ⟨#[]⟩][o]? := U2.out.ucells
        have fu := U2.out.ufrozen
        go_wp2_with fail
        refine (qtext_at x _ _ _ _ A2.out U2.out.ds.rd).mono ?_
        rintro e wv2 ⟨⟨er, rfl⟩, hr, ht⟩
        clear ml fz cu fu
        have V2 := hid (U2.out.read qdLaw hr ht)
        clear hr ht U2
        have ml : ∀ o, wv2.cell? ⟨wn.heap.size, o, none⟩ = #[.int .i64 6, .int .i64 v3, .int .i64 0, .int .i64 0, .slice none 0 0, .slice none 0 0, .int .i64 0, .int .i64 0, .string ByteArray.empty, .slice up k uc][o]? := V2.out.ds.cells
        have fz := V2.out.ds.frozen
        have cu : ∀ o, wv2.cell? ⟨wr.heap.size, o, none⟩ = #[.int .i64 a0, .int .i64 a1, .string ⟨#[]⟩][o]? := V2.out.ucells
        have fu := V2.out.ufrozen
        go_upto_region 31 with fail
        clear ml fz cu fu
        have U3 := hid (V2.out.put qdLaw 2 (.string a2) #[.int .i64 a0, .int .i64 a1, .string a2] rfl)
        clear V2
        generalize wv2.setCell ⟨wr.heap.size, 2, none⟩ (.string a2) = wu3 at U3 ⊢
        have ml : ∀ o, wu3.cell? ⟨wn.heap.size, o, none⟩ = #[.int .i64 6, .int .i64 v3, .int .i64 0, .int .i64 0, .slice none 0 0, .slice none 0 0, .int .i64 0, .int .i64 0, .string ByteArray.empty, .slice up k uc][o]? := U3.out.ds.cells
        have fz := U3.out.ds.frozen
        have cu : ∀ o, wu3.cell? ⟨wr.heap.size, o, none⟩ = #[.int .i64 a0, .int .i64 a1, .string a2][o]? := U3.out.ucells
        have fu := U3.out.ufrozen
        have UN : Hid (wu3.ownsRow w.heap.size 90 3 (.slice up k uc) k (opnVals (rdOpens k s4).1)) := hid (by have h := U3.out.ds.un; dsimp only at h; rw [rdOpens_length] at h; exact h)
        have UL : Hid (w.heap.size ≤ wu3.heap.size) := hid U3.out.ds.new.size
        have DV := hid U3.out.ds
        have HL : Hid ((rdOpens k s4).1.length = k) := hid (rdOpens_length k s4)
        clear A0 A1 A2 D U3
        go_wp2_with (at_builtin; with_reducible refine app_opens rfl _ _ rfl w.heap.size (.slice up k uc) k _ rfl (own_new UN.out ((New.refl wu3).alloc _ _)) _ a0 a1 a2 rfl ?c0 ?c1 ?c2 (by omega) (by have := UL.out; simp; omega) ?_)
        case c0 => exact cells_of (heap_alloc_new wu3 _) 0
        case c1 => exact cells_of (heap_alloc_new wu3 _) 1
        case c2 => exact cells_of (heap_alloc_new wu3 _) 2
        intro v' w' hown hg _
        obtain ⟨A', c', rfl⟩ := own_len hown
        have DG := hid (DV.out.grow qdLaw ((New.refl wu3).alloc _ _) (by dsimp only; rw [HL.out]; exact hown) hg (⟨6, v3, 0, 0, ByteArray.empty, ByteArray.empty, 0, 0, ByteArray.empty, (rdOpens (k + 1) s4).1⟩ : Rec) (by rw [HN.out]))
        have HT := hid (congrArg Prod.snd HN.out)
        have HB9 := hid (DV.out.newer qdLaw ((New.refl wu3).alloc #[.int .i64 a0, .int .i64 a1, .string a2] 90))
        clear ml fz cu fu
        have e9 : w'.heap[wn.heap.size]? = some (.cells (recCells (⟨6, v3, 0, 0, ByteArray.empty, ByteArray.empty, 0, 0, ByteArray.empty, (rdOpens k s4).1⟩ : Rec) (.slice none 0 0) (.slice none 0 0) (.slice up k uc)) 25 (0, 0)) := by
          have h1 := HB9.out
          rw [hg.block _ (Array.getElem?_eq_some_iff.1 h1.rc).1 (fun e => own_ne h1.un h1.rc (by decide) e.symm)]
          exact h1.rc
        have fzg : ∀ o, w'.frozen? ⟨wn.heap.size, o, none⟩ = false := frozen_of e9
        have clg : ∀ o, w'.cell? ⟨wn.heap.size, o, none⟩ = (recCells (⟨6, v3, 0, 0, ByteArray.empty, ByteArray.empty, 0, 0, ByteArray.empty, (rdOpens k s4).1⟩ : Rec) (.slice none 0 0) (.slice none 0 0) (.slice up k uc))[o]? := cells_of e9
        clear HB9 DV UN UL HL HN hown hg e9
        go_wp2
        clear fzg clg
        go_roundw
        case rel => exact ⟨k + 1, by omega, by go_num, hid ⟨_, by have h := DG.out; rw [show t2 = (rdOpens (k + 1) s4).2 from HT.out.symm] at h; exact h⟩⟩
        case measure => simp [intOf]; omega

theorem rdecode_any (bv : Value) (l : List UInt8) (w : World) (h : Bytes w bv (bytesOf l)) (hl : l.length ≤ 1000000) : Calls Try.prog 38 #[bv] w (DecBack l w) := by
  by_cases h1 : (decHead l).kind = 1
  · exact rdecode_1 bv l w h hl h1
  by_cases h2 : (decHead l).kind = 2
  · exact rdecode_2 bv l w h hl h2
  by_cases h5 : (decHead l).kind = 5
  · exact rdecode_5 bv l w h hl h5
  by_cases h7 : (decHead l).kind = 7
  · exact rdecode_7 bv l w h hl h7
  by_cases h6 : (decHead l).kind = 6
  · exact rdecode_6 bv l w h hl h6
  exact rdecode_0 bv l w h hl ⟨h1, h2, h5, h7, h6⟩

end Go.Proofs.Ytbclgklpcbajfaa
