/- The specification's world: opens returns the units that are open or ready, ascending. -/
import Derived.Test.YtmchbciofdokfaaX2
import Derived.Deep.CutRange
import Derived.Deep.CutBlock
import Derived.Deep.RegionLaw
namespace Go.Proofs.Ytmchbciofdokfaa
open Go.RowKit
set_option linter.unusedSimpArgs false
set_option linter.unusedVariables false

/-- What opens returns. -/
def ROpensIs (W : PW) (n : Nat) (w : World) (e : Ending) (w' : World) : Prop := ∃ v l, e = .returned v ∧ IsOpens W.unit l ∧ Opens w' v l ∧ New w w' ∧ l.length ≤ n
structure RColl (w wr : World) (f : Int → AU) (lu : List (Int × Nat × Value)) (v : Value) (ol : List Opn) (k : Nat) : Prop where
  row : Opens wr v ol
  new : New w wr
  is : IsColl f lu k ol
  nil : ol.length = 0 → v = .slice none 0 0
theorem Opens.form {w : World} {v : Value} {l : List Opn} (h : Opens w v l) : ∃ p c, v = .slice p l.length c ∧ l.length ≤ c ∧ c ≤ 9223372036854775807 := by
  obtain ⟨p, c, e, h1, h2, _⟩ := h
  exact ⟨p, c, e, h1, by unfold maxLen at h2; omega⟩
set_option maxRecDepth 100000 in
set_option maxHeartbeats 8000000 in
theorem ropens_any (w0 : Base) (wb : Nat) (S : RSh) (W : PW) (w : World) (h : RefAt w0 w wb S W) (hst : ∀ n, 0 ≤ (W.unit n).st ∧ (W.unit n).st ≤ 3) (hll : S.lu.length ≤ 1000) (hlf : ∀ n, (W.unit n).left.length ≤ 1000) :
    Calls Try.prog 67 #[.pointer (some ⟨wb, 0, none⟩)] w (ROpensIs W S.lu.length w) := by
  have H := hid h
  have c1 := h.cell1
  obtain ⟨pu, cu, hu, hu1, hu2⟩ := h.rowU2
  have HU := hid hu
  rw [hu] at c1
  have HST := hid hst
  have HLF := hid hlf
  have HLL := hid hll
  clear h hu hst hlf
  go_enter Try.func67, Try.ntmps67
  go_wp2_with fail
  go_loopw [3, 4, 5, 6, 7, 8] (fun o i _ _ _ _ wr => ∃ k : Nat, k ≤ S.lu.length ∧ i = .int .i64 k ∧ ∃ ol, Hid (RColl w wr W.unit S.lu o ol k)) (fun _ i _ _ _ _ _ => S.lu.length - (intOf i).toNat)
  case atStart => exact ⟨0, Nat.zero_le _, rfl, [], hid ⟨Opens.nothing w none 0 (Nat.zero_le _), New.refl w, IsColl.nil _ _, fun _ => rfl⟩⟩
  case round =>
    obtain ⟨k, hk, rfl, ol, hC⟩ := hrel
    by_cases hlt : k < S.lu.length
    · have HW := hid (H.out.newer hC.out.new)
      obtain ⟨g, o, c, e, -, -, hg, hcu⟩ := HW.out.unit_at hlt
      rw [HU.out] at e
      injection e with e1 _ e3
      subst e1 e3
      have hx := List.getElem_mem hlt
      obtain ⟨hb, hb2⟩ := HW.out.units.unit _ hx
      have HTK : Hid (S.lu.take (k + 1) = S.lu.take k ++ [S.lu[k]]) := hid (List.take_append_getElem hlt).symm
      have HX := hid hx
      clear hx
      have d1 : wr.cell? ⟨wb, 1, none⟩ = some (.slice (some ⟨g, o, none⟩) S.lu.length cu) := by rw [HW.out.cell1, HU.out]
      generalize S.lu[k] = x at *
      obtain ⟨xn, xb, xv⟩ := x
      obtain ⟨lp, lc, hlv⟩ := own_len hb2
      have uc0 : wr.cell? ⟨xb, 0, none⟩ = some (.int .i64 xn) := cells_of hb 0
      have uc1 : wr.cell? ⟨xb, 1, none⟩ = some (.int .i64 (W.unit xn).st) := cells_of hb 1
      have uc2 : wr.cell? ⟨xb, 2, none⟩ = some (.slice lp (W.unit xn).left.length lc) := by rw [← hlv]; exact cells_of hb 2
      have uc3 : wr.cell? ⟨xb, 3, none⟩ = some (.string (W.unit xn).text) := cells_of hb 3
      have HB2 : Hid (RowAt wr (.slice lp (W.unit xn).left.length lc) (W.unit xn).left.length (natVals (W.unit xn).left)) := hid (by rw [← hlv]; exact RowAt.owned hb2)
      have hxlt : xb < wr.heap.size := (Array.getElem?_eq_some_iff.1 hb).1
      obtain ⟨hs0, hs1⟩ := HST.out xn
      have HLL2 := hid (HLF.out xn)
      obtain ⟨po, co, rfl, ho1, ho2⟩ := hC.out.row.form
      have HC := hid hC.out
      have HSKIP : Hid (¬ (W.unit xn).st ≤ 1 → IsColl W.unit S.lu (k + 1) ol) := hid (fun hn => hC.out.is.skip HTK.out hn)
      have HPUT : Hid ((W.unit xn).st ≤ 1 → ∀ j, j ≤ ol.length → (∀ i (hi : i < ol.length), j ≤ i → xn < (ol[i]).unit) → (0 < j → ∃ (hj : j - 1 < ol.length), (ol[j - 1]).unit ≤ xn) → IsColl W.unit S.lu (k + 1) (ol.take j ++ ([openOf xn (W.unit xn)] ++ ol.drop j))) := hid (fun hy j hj ha hb => hC.out.is.put HTK.out hy H.out.units.keys hj ha hb)
      have HOL : Hid (ol.length ≤ 1000) := hid (by have := hC.out.is.len; omega)
      clear hb hb2 hlv hC c1
      generalize W.unit xn = U at *
      by_cases hst : U.st ≤ 1
      case neg =>
        have t1 : (U.st != 0) = true := by simp; omega
        have t2 : (U.st != 1) = true := by simp; omega
        have HS2 := hid hst
        clear hst
        go_wp2
        go_roundw
        case rel => exact ⟨k + 1, by omega, by go_num, ol, hid ⟨HC.out.row, HC.out.new, HSKIP.out HS2.out, HC.out.nil⟩⟩
        case measure => simp [intOf]; omega
      have ht : ((U.st != 0) = false) ∨ ((U.st != 0) = true ∧ (U.st != 1) = false) := by
        by_cases h0 : U.st = 0
        · exact .inl (by simp [h0])
        · have : U.st = 1 := by omega
          exact .inr ⟨by simp [this], by simp [this]⟩
      have HS2 := hid hst
      clear hst
      rcases ht with t1 | ⟨t1, t2⟩
      all_goals
        go_wp2_with fail
        go_region
        have BX := hid (alloc_block wr (.cells #[.int .i64 xn, .int .i64 0, .string U.text] 47))
        have NX := hid (Below.alloc (New.refl wr) (Nat.le_refl _) (.cells #[.int .i64 xn, .int .i64 0, .string U.text] 47)).drew
        have BX2 : Hid (((wr.alloc (.cells #[.int .i64 xn, .int .i64 0, .string U.text] 47)).drew).heap[wr.heap.size]? = some (.cells #[.int .i64 xn, .int .i64 0, .string U.text] 47 (0, 0))) := hid BX.out
        have vc2 := ((bcell NX.out).1 xb 2 hxlt).trans uc2
        have HB3 := hid (HB2.out.new NX.out)
        have RO := hid (HC.out.row.new NX.out)
        have d2 := ((bcell NX.out).1 wb 1 HW.out.lt).trans d1
        clear BX uc0 uc1 uc2 uc3 t1
        obtain ⟨xq, hxq, HQ⟩ : ∃ xq, wr.heap.size = xq ∧ Hid (wr.heap.size ≤ xq) := ⟨_, rfl, hid (Nat.le_refl _)⟩
        rw [hxq] at BX2 ⊢
        generalize (wr.alloc (.cells #[.int .i64 xn, .int .i64 0, .string U.text] 47)).drew = w1 at *
        have xq0 : w1.cell? ⟨xq, 0, none⟩ = some (.int .i64 xn) := cells_of BX2.out 0
        have xq1 : w1.cell? ⟨xq, 1, none⟩ = some (.int .i64 0) := cells_of BX2.out 1
        have xqf : w1.frozen? ⟨xq, 1, none⟩ = false := frozen_of BX2.out 1
        have xqlt : xq < w1.heap.size := (Array.getElem?_eq_some_iff.1 BX2.out).1
        clear hxq hxlt
        generalize hz : U.left.length = z at *
        have HZ := hid hz
        have hz10 := HLL2.out
        have HLA0 : Hid (z = 0 → lastN U.left = 0) := hid (fun h0 => by
          have : U.left = [] := List.eq_nil_of_length_eq_zero (by rw [hz]; exact h0)
          rw [this]
          rfl)
        generalize hla : lastN U.left = la at *
        have HLA := hid hla
        have HN1 : Hid (New w1 w1) := hid (New.refl w1)
        clear hla
        go_upto_if 52 with (fail)
        go_cut [] from 9 to 89 (fun wx => Hid (wx.heap[xq]? = some (.cells #[.int .i64 xn, .int .i64 (la : Int), .string U.text] 47 (0, 0))) ∧ Hid (New wr wx) ∧ Hid (Opens wx (.slice po ol.length co) ol))
        case first =>
          rcases Nat.eq_zero_or_pos z with hz0 | hz0
          · have e0 := HLA0.out hz0
            subst e0
            subst hz0
            go_wp2
            go_meet
            case rel => exact ⟨BX2, NX, RO⟩
          · obtain ⟨zl, hzl⟩ : ∃ zl, z = zl + 1 := ⟨z - 1, by omega⟩
            have hzl2 : zl < z := by omega
            have hzw : IntKind.i64.wrap ((z : Int) - 1) = (zl : Int) := by rw [hzl, Int.natCast_succ, Int.add_sub_cancel]; exact IntWalk.i64_in _ (by omega)
            have hgt : decide (0 < z) = true := by simpa using hz0
            obtain ⟨p1, c2, e1, -, -, hcell⟩ := HB3.out
            injection e1 with e11 _ e13
            subst e11 e13
            obtain ⟨gL, oL, e14, hgL, hcL⟩ := hcell hz0
            subst e14
            have y2 := hcL zl (by unfold natVals; rw [List.length_map, hz]; exact hzl2)
            have hcv := natVals_last (l := U.left) (zl := zl) (by rw [hz, hzl])
            rw [hcv, HLA.out] at y2
            clear hcell hcL hcv hzl hz
            have t5 : Turn (· = xq) w1 (w1.setCell ⟨xq, 1, none⟩ (.int .i64 (la : Int))) := turn_cell w1 xq 1 _
            have b5 : (w1.setCell ⟨xq, 1, none⟩ (.int .i64 (la : Int))).heap[xq]? = some (.cells #[.int .i64 xn, .int .i64 (la : Int), .string U.text] 47 (0, 0)) := by
              have e1 := heap_setCell_same w1 xq 1 _ 47 (.int .i64 (la : Int)) BX2.out
              rw [e1]
              rfl
            have B5 := hid b5
            have N5 := hid (New.turn NX.out t5 (fun k hk e => by have := HQ.out; omega))
            have R5 := hid (HC.out.row.new N5.out)
            clear t5 b5
            go_wp2
            go_meet
            case rel => exact ⟨B5, N5, R5⟩
        case rest =>
          obtain ⟨BX3, NX3, RO3⟩ := hcut
          have xq0 : wc.cell? ⟨xq, 0, none⟩ = some (.int .i64 xn) := cells_of BX3.out 0
          clear xqlt xq1 xqf vc2 d2 d1 hs0 hs1
          have N1 := NX3
          go_upto_block 2 with (fail)
          go_cut [8] from 9 to 89 (fun i wx => ∃ j : Nat, j ≤ ol.length ∧ i = .int .i64 j ∧ Hid (New wc wx) ∧ Hid (∀ i (hi : i < ol.length), j ≤ i → xn < (ol[i]).unit) ∧ Hid (0 < j → ∃ (hj : j - 1 < ol.length), (ol[j - 1]).unit ≤ xn))
          case first =>
            go_wp2_with fail
            go_loopw [8] (fun i wq => ∃ j : Nat, j ≤ ol.length ∧ i = .int .i64 j ∧ Hid (New wc wq) ∧ Hid (∀ i (hi : i < ol.length), j ≤ i → xn < (ol[i]).unit)) (fun i _ => (intOf i).toNat)
            case atStart => exact ⟨ol.length, Nat.le_refl _, rfl, hid (New.refl wc), hid (fun i hi h => absurd hi (by omega))⟩
            case round =>
              obtain ⟨j, hj, rfl, hnq, hgt⟩ := hrel
              have xq0 := ((bcell hnq.out).1 xq 0 (Array.getElem?_eq_some_iff.1 BX3.out).1).trans xq0
              have xqlt := World.block_lt_of_cell? _ _ xq0
              rcases Nat.eq_zero_or_pos j with h0 | h0
              · subst h0
                go_wp2_with fail
                go_quiet (fail)
                go_wp2
                go_meet
                case rel => exact ⟨0, Nat.zero_le _, rfl, hid (hnq.out.trans (New.drewN (New.refl _) _)), hgt, hid (fun h => absurd h (by omega))⟩
              · obtain ⟨jl, hjl⟩ : ∃ jl, j = jl + 1 := ⟨j - 1, by omega⟩
                have hjlt : jl < ol.length := by omega
                obtain ⟨p1, c2, e1, -, -, hcell⟩ := (RO3.out.new hnq.out)
                injection e1 with e11 _ e13
                subst e11 e13
                obtain ⟨gL, oL, e14, hgL, hcL⟩ := hcell (by omega)
                subst e14
                obtain ⟨y0, -, -⟩ := opns_at hcL jl hjlt
                have hgj : decide (0 < j) = true := by simpa using h0
                have hjw : IntKind.i64.wrap ((j : Int) - 1) = (jl : Int) := by rw [hjl, Int.natCast_succ, Int.add_sub_cancel]; exact IntWalk.i64_in _ (by omega)
                have hjz : (0 : Int) ≤ (jl : Int) := by omega
                have hjn : ((jl : Int)).toNat = jl := by omega
                have HJL := hid hjl
                clear hcell hcL hjl
                by_cases hc : xn < (ol[jl]).unit
                · have HC2 := hid hc
                  have tc : decide (xn < (ol[jl]).unit) = true := by simpa using hc
                  clear hc
                  have HGT2 : Hid (∀ i (hi : i < ol.length), jl ≤ i → xn < (ol[i]).unit) := hid (fun i hi hji => by
                    rcases Nat.lt_or_ge i j with h | h
                    · obtain rfl : i = jl := by have := HJL.out; omega
                      exact HC2.out
                    · exact hgt.out i hi h)
                  generalize (ol[jl]).unit = yu at *
                  go_wp2_with fail
                  go_quiet (fail)
                  go_wp2
                  go_roundw
                  case rel => exact ⟨jl, by omega, rfl, hid (hnq.out.trans (New.drewN (New.refl _) _)), HGT2⟩
                  case measure => simp [intOf]; have := HJL.out; omega
                · have HC2 := hid hc
                  have tc : decide (xn < (ol[jl]).unit) = false := by simpa using hc
                  clear hc
                  have HLE2 : Hid (0 < j → ∃ (hj : j - 1 < ol.length), (ol[j - 1]).unit ≤ xn) := hid (fun _ => by
                    have e : j - 1 = jl := by have := HJL.out; omega
                    refine ⟨by omega, ?_⟩
                    have := HC2.out
                    simp only [e]
                    omega)
                  generalize (ol[jl]).unit = yu at *
                  go_wp2_with fail
                  go_quiet (fail)
                  go_wp2
                  go_meet
                  case rel => exact ⟨j, hj, rfl, hid (hnq.out.trans (New.drewN (New.refl _) _)), hgt, HLE2⟩
          case rest =>
            obtain ⟨j, hj, rfl, NJ, HGT, HLE⟩ := hcut
            have BX4 := hid ((Below.block NJ.out xq (Array.getElem?_eq_some_iff.1 BX3.out).1).trans BX3.out)
            have N4 := hid (NX3.out.trans NJ.out)
            have RO4 := hid (RO3.out.new NJ.out)
            have HIS := hid (HPUT.out HS2.out j hj HGT.out HLE.out)
            have HOE : Hid (openOf xn U = (⟨xn, (la : Int), U.text⟩ : Opn)) := hid (by unfold openOf; rw [HLA.out])
            clear xq0
            have xq0 : wc.cell? ⟨xq, 0, none⟩ = some (.int .i64 xn) := cells_of BX4.out 0
            have xq1 : wc.cell? ⟨xq, 1, none⟩ = some (.int .i64 (la : Int)) := cells_of BX4.out 1
            have xq2 : wc.cell? ⟨xq, 2, none⟩ = some (.string U.text) := cells_of BX4.out 2
            have hj0 : (0 : Int) ≤ (j : Int) := by omega
            have hol := HOL.out
            have HMADE : Hid (Opens (wc.alloc (.cells #[.int .i64 xn, .int .i64 (la : Int), .string U.text] 47)).drew (.slice (some ⟨wc.heap.size, 0, none⟩) 1 1) [(⟨xn, (la : Int), U.text⟩ : Opn)]) := hid (Opens.made (u := ⟨xn, (la : Int), U.text⟩) (alloc_block wc _))
            have NMADE : Hid (New wc (wc.alloc (.cells #[.int .i64 xn, .int .i64 (la : Int), .string U.text] 47)).drew) := hid ((New.refl wc).alloc _ _).drew
            rcases Nat.eq_zero_or_pos ol.length with hz0 | hz0
            · have e := HC.out.nil hz0
              injection e with e1 e2 e3
              subst e1 e3
              have hj00 : j = 0 := by omega
              subst hj00
              have hol0 : ol = [] := List.eq_nil_of_length_eq_zero hz0
              have HOL0 := hid hol0
              have HD0 : ∀ W', Opens W' (.slice none 0 0) [] := fun W' => Opens.nothing W' none 0 (Nat.zero_le _)
              have HD := hid HD0
              rw [hz0]
              clear HD0 hol0 hz0 hj hol
              go_wp2_with fail
              go_region_law (first
                | (refine step_app_full rfl _ _ rfl none 0 [] [(⟨xn, (la : Int), U.text⟩ : Opn)] _ rfl rfl (HD.out _) (Or.inr (by simp)) (fun h => rfl) HMADE.out (by simp) 1 (by simp) ?_; intro q2 c2 we ho2 hn2; have HO2 := hid ho2; have HN2 : Hid (New w we) := hid (HC.out.new.trans (N4.out.trans (NMADE.out.trans hn2))); clear ho2 hn2))
              all_goals
                have HZZ : Hid (IsColl W.unit S.lu (k + 1) ([] ++ [(⟨xn, (la : Int), U.text⟩ : Opn)])) := hid (by have h := HIS.out; rw [HOE.out] at h; have e := HOL0.out; subst e; simpa using h)
                go_wp2
                go_roundw
                case rel => exact ⟨k + 1, by omega, by go_num, _, hid ⟨HO2.out, HN2.out, HZZ.out, fun h => absurd h (by simp)⟩⟩
                case measure => simp [intOf]; omega
            · obtain ⟨p1, c2, e1, -, hcm, hcell⟩ := RO4.out
              injection e1 with e11 _ e13
              subst e11 e13
              obtain ⟨gL, oL, e14, hgL, -⟩ := hcell hz0
              subst e14
              have HTAKE := hid (Opens.take RO4.out hj)
              by_cases hco : co = j
              · have hlj : ol.length = j := by omega
                subst hco
                have HTK0 : Hid (ol.take co = ol ∧ ol.drop co = []) := hid ⟨List.take_of_length_le (by omega), List.drop_eq_nil_of_le (by omega)⟩
                have HD2 : ∀ W', Opens W' (.slice (some ⟨gL, oL, none⟩) 0 0) [] := fun W' => Opens.nothing W' _ 0 (Nat.zero_le _)
                have HD := hid HD2
                have HBD : Hid (([(⟨xn, (la : Int), U.text⟩ : Opn)] : List Opn).length + ([] : List Opn).length ≤ 1000000 ∧ (ol.take co).length + ([(⟨xn, (la : Int), U.text⟩ : Opn)] ++ [] : List Opn).length ≤ 1000000) := hid (by simp; omega)
                obtain ⟨N1, hn1'⟩ : ∃ N1, ([(⟨xn, (la : Int), U.text⟩ : Opn)] : List Opn).length + ([] : List Opn).length = N1 := ⟨_, rfl⟩
                obtain ⟨N2, hn2'⟩ : ∃ N2, (ol.take co).length + ([(⟨xn, (la : Int), U.text⟩ : Opn)] ++ [] : List Opn).length = N2 := ⟨_, rfl⟩
                have HN1' := hid hn1'
                have HN2' := hid hn2'
                have HTAKE := hid HTAKE.out
                clear hcell hn1' hn2' HD2 HPUT HGT HLE
                generalize ol.length = n0 at *
                subst hlj
                go_wp2_with fail
                go_region_law (first
                  | (refine step_app_full rfl _ _ rfl (some ⟨wc.heap.size, 0, none⟩) 1 [(⟨xn, (la : Int), U.text⟩ : Opn)] [] _ rfl rfl HMADE.out (Or.inl (by simp)) (fun h => by cases h) (HD.out _) HBD.out.1 N1 HN1'.out ?_; intro q1 c1 wd ho1 hn1; have HO1 := hid ho1; have HN1 : Hid (New wc wd) := hid (NMADE.out.trans hn1); clear ho1 hn1)
                  | (refine step_app_full rfl _ _ rfl _ n0 (ol.take n0) ([(⟨xn, (la : Int), U.text⟩ : Opn)] ++ []) _ rfl rfl (HTAKE.out.new HN1.out) (Or.inr (by simp)) (fun h => by cases h) HO1.out HBD.out.2 N2 HN2'.out ?_; intro q2 c2 we ho2 hn2; have HO2 := hid ho2; have HN2 : Hid (New w we) := hid (HC.out.new.trans (N4.out.trans (HN1.out.trans hn2))); clear ho2 hn2))
                all_goals
                  have HZZ : Hid (IsColl W.unit S.lu (k + 1) (ol.take n0 ++ ([(⟨xn, (la : Int), U.text⟩ : Opn)] ++ []))) := hid (by have h := HIS.out; rw [HOE.out, HTK0.out.2] at h; exact h)
                  go_wp2
                  go_roundw
                  case rel => exact ⟨k + 1, by omega, by go_num, _, hid ⟨HO2.out, HN2.out, HZZ.out, fun h => absurd h (by simp)⟩⟩
                  case measure => simp [intOf]; omega
              · have hcj : j < co := by omega
                have HDROP := hid (Opens.drop RO4.out hj)
                have hjc1 : j ≤ co := by omega
                have hjc2 : (j : Int) ≤ (co : Int) := by omega
                have HBD : Hid (([(⟨xn, (la : Int), U.text⟩ : Opn)] : List Opn).length + (ol.drop j).length ≤ 1000000 ∧ (ol.take j).length + ([(⟨xn, (la : Int), U.text⟩ : Opn)] ++ ol.drop j).length ≤ 1000000) := hid (by simp; omega)
                obtain ⟨N1, hn1'⟩ : ∃ N1, ([(⟨xn, (la : Int), U.text⟩ : Opn)] : List Opn).length + (ol.drop j).length = N1 := ⟨_, rfl⟩
                obtain ⟨N2, hn2'⟩ : ∃ N2, (ol.take j).length + ([(⟨xn, (la : Int), U.text⟩ : Opn)] ++ ol.drop j).length = N2 := ⟨_, rfl⟩
                have HN1' := hid hn1'
                have HN2' := hid hn2'
                clear hcell hn1' hn2'
                go_wp2_with fail
                go_region_law (first
                  | (refine step_app_full rfl _ _ rfl (some ⟨wc.heap.size, 0, none⟩) 1 [(⟨xn, (la : Int), U.text⟩ : Opn)] (ol.drop j) _ rfl rfl HMADE.out (Or.inl (by simp)) (fun h => by cases h) (HDROP.out.new NMADE.out) HBD.out.1 N1 HN1'.out ?_; intro q1 c1 wd ho1 hn1; have HO1 := hid ho1; have HN1 : Hid (New wc wd) := hid (NMADE.out.trans hn1); clear ho1 hn1)
                  | (refine step_app_full rfl _ _ rfl _ j (ol.take j) ([(⟨xn, (la : Int), U.text⟩ : Opn)] ++ ol.drop j) _ rfl rfl (HTAKE.out.new HN1.out) (Or.inr (by simp)) (fun h => by cases h) HO1.out HBD.out.2 N2 HN2'.out ?_; intro q2 c2 we ho2 hn2; have HO2 := hid ho2; have HN2 : Hid (New w we) := hid (HC.out.new.trans (N4.out.trans (HN1.out.trans hn2))); clear ho2 hn2))
                all_goals
                  have HZZ : Hid (IsColl W.unit S.lu (k + 1) (ol.take j ++ ([(⟨xn, (la : Int), U.text⟩ : Opn)] ++ ol.drop j))) := hid (by have h := HIS.out; rw [HOE.out] at h; exact h)
                  go_wp2
                  go_roundw
                  case rel => exact ⟨k + 1, by omega, by go_num, _, hid ⟨HO2.out, HN2.out, HZZ.out, fun h => absurd h (by simp)⟩⟩
                  case measure => simp [intOf]; omega
    · obtain rfl : k = S.lu.length := by omega
      have HALL := hid (hC.out.is.all H.out.units.none H.out.units.seen)
      obtain ⟨po, co, rfl, ho1, ho2⟩ := hC.out.row.form
      have d1 : wr.cell? ⟨wb, 1, none⟩ = some (.slice pu S.lu.length cu) := by rw [(H.out.newer hC.out.new).cell1, HU.out]
      have HC := hid hC.out
      have HLN : Hid (ol.length ≤ S.lu.length) := hid hC.out.is.len
      clear hC c1
      go_wp2
      go_ret
      exact ⟨_, ol, rfl, HALL.out, HC.out.row, HC.out.new, HLN.out⟩
end Go.Proofs.Ytmchbciofdokfaa
