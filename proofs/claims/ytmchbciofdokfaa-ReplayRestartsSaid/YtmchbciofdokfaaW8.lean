/- open: the units that are open or ready, ascending. -/
import Derived.Test.YtmchbciofdokfaaW7
namespace Go.Proofs.Ytmchbciofdokfaa
open Go.RowKit
open Go.ChangeMaps (setBlock)
set_option linter.unusedSimpArgs false
set_option linter.unusedVariables false

/-- The opens of keys. -/
def opensOf (f : Int → AU) (ks : List Int) : List Opn := (ks.filter fun n => decide (Live (f n))).map fun n => openOf n (f n)
theorem opensOf_snoc (f : Int → AU) (ks : List Int) (n : Int) : opensOf f (ks ++ [n]) = opensOf f ks ++ if Live (f n) then [openOf n (f n)] else [] := by
  unfold opensOf
  rw [List.filter_append, List.map_append]
  by_cases h : Live (f n)
  · simp [h]
  · simp [h]
theorem opensOf_is {f : Int → AU} {ks : List Int} (hs : ks.Pairwise (· ≤ ·)) (hn : ks.Nodup) (hk : ∀ n, Live (f n) → n ∈ ks) : IsOpens f (opensOf f ks) := by
  unfold opensOf
  refine ⟨?_, fun o => ?_⟩
  · rw [List.map_map]
    have h1 : ks.Pairwise (· < ·) := (hs.and hn).imp fun ⟨a, b⟩ => by omega
    have h2 := List.Pairwise.sublist (List.filter_sublist (p := fun n => decide (Live (f n)))) h1
    have e : (ks.filter fun n => decide (Live (f n))).map ((fun o : Opn => o.unit) ∘ fun n => openOf n (f n)) = ks.filter fun n => decide (Live (f n)) := by
      rw [show ((fun o : Opn => o.unit) ∘ fun n => openOf n (f n)) = id from funext fun n => rfl, List.map_id]
    rw [e]
    exact h2
  · rw [List.mem_map]
    constructor
    · rintro ⟨n, hn, rfl⟩
      rw [List.mem_filter] at hn
      exact ⟨by show Live (f n); simpa using hn.2, rfl⟩
    · rintro ⟨h1, h2⟩
      exact ⟨o.unit, List.mem_filter.2 ⟨hk _ h1, by simpa using h1⟩, h2.symm⟩
theorem infoOpn : (Try.prog.info? 47).map (fun i => (i.zero, i.size, i.bytes)) = some (some (.agg #[.int .i64 0, .int .i64 0, .string ByteArray.empty]), 3, 32) := by kernel_rfl
set_option maxRecDepth 10000 in
/-- append(l, x). -/
theorem app_opn {ops : Array Oper} {rest : List Oper} {o : Oper} {a : Act} {w : World} {Q : Exit → Act → World → Prop} (hgd : o.guard = none) (sl x : Operand)
    (ho : o.op = .call { callee := .builtin .append, args := #[sl, x], argTypes := #[34, 34] })
    (v : Value) (n : Nat) (xs : List Value) (hs : a.eval sl = v) (base : Nat) (hown : w.ownsRow base 47 3 v n xs) (hbase : base ≤ w.heap.size) (k : Nat) (u : Opn) (hx : a.eval x = .slice (some ⟨k, 0, none⟩) 1 1)
    (hc : ∀ i, w.cell? ⟨k, i, none⟩ = (#[.int .i64 u.unit, .int .i64 u.next, .string u.ready] : Array Value)[i]?) (hb : n ≤ 1000000)
    (h : ∀ v' w', w'.ownsRow base 47 3 v' (n + 1) (xs ++ [.int .i64 u.unit, .int .i64 u.next, .string u.ready]) → w.grownBy w' v.ownBlock → (v'.ownBlock = v.ownBlock ∨ v'.ownBlock = some w.heap.size) → wpList Try.prog ops Q rest (a.put o.dst v') w') : wpList Try.prog ops Q (o :: rest) a w := by
  obtain ⟨i0, hi, hz0, hz1, hz2⟩ := info_parts infoOpn
  refine wpList_append_own_at w hgd sl x 34 ho base 47 i0 _ 3 32 Try.underlying34 hi hz0 hz1 hz2 rfl (by decide) v n xs hs hown ⟨k, 0, none⟩ 1 1 [.int .i64 u.unit, .int .i64 u.next, .string u.ready] hx rfl (fun j y hj => ?_) (fun y hy => by simp at hy; rcases hy with rfl | rfl | rfl <;> rfl) (by unfold maxLen; omega) (by omega) hbase fun v' w' h1 h2 _ h4 => h v' w' h1 h2 h4
  have e : (⟨k, 0, none⟩ : Addr).add j = ⟨k, j, none⟩ := by unfold Addr.add; split <;> simp_all
  rw [e, hc j, ← hj]
  simp
theorem natVals_last {l : List Nat} {zl : Nat} (h : l.length = zl + 1) : (natVals l).getD zl undef = .int .i64 ((lastN l : Nat) : Int) := by
  have hne : l ≠ [] := fun e => by rw [e] at h; simp at h
  obtain ⟨m, a, rfl⟩ : ∃ m a, l = m ++ [a] := ⟨l.dropLast, l.getLast hne, (List.dropLast_concat_getLast hne).symm⟩
  have hm : m.length = zl := by simpa using h
  unfold natVals lastN
  rw [List.getD_eq_getElem?_getD, List.map_append, List.getElem?_append_right (by rw [List.length_map]; omega), List.length_map, hm]
  simp
/-- What open returns. -/
def OpenIs (W : PW) (w : World) (e : Ending) (w' : World) : Prop := ∃ v l, e = .returned v ∧ IsOpens W.unit l ∧ w'.ownsRow w.heap.size 47 3 v l.length (opnVals l) ∧ New w w'
/-- What is collected. -/
structure Coll (w wr : World) (v : Value) (l : List Opn) : Prop where
  row : wr.ownsRow w.heap.size 47 3 v l.length (opnVals l)
  new : New w wr
theorem opnVals_snoc (l : List Opn) (u : Opn) : opnVals (l ++ [u]) = opnVals l ++ [.int .i64 u.unit, .int .i64 u.next, .string u.ready] := by
  simp [opnVals]
set_option maxRecDepth 100000 in
set_option maxHeartbeats 4000000 in
theorem open_any (w0 : World) (wb : Nat) (S : WSh) (W : PW) (w : World) (h : WorldAt w0 w wb S W) (hs : Sane W) (hk : ∀ x ∈ S.lu, 0 ≤ x.1 ∧ x.1 ≤ 1000000) (hl : S.lu.length ≤ 10000) (hun : ∀ n, (W.unit n).seen = false → W.unit n = au0) :
    Calls Try.prog 34 #[.pointer (some ⟨wb, 0, none⟩)] w (OpenIs W w) := by
  obtain ⟨c0, c1, c2, c3, c4⟩ := h.cells
  have H := hid h
  have HS := hid hs
  have HUN := hid hun
  have HMAP := hid h.units.map
  have HWF : Hid (∀ p ∈ S.lu.map fun x => (x.1, Value.pointer (some ⟨x.2.1, 0, none⟩)), (Lit.int .i64 p.1).wf = true) := hid (fun p hp => by
    obtain ⟨x, hx, rfl⟩ := List.mem_map.1 hp
    have := hk x hx
    simp [Lit.wf, IntKind.min, IntKind.max, IntKind.signed, IntKind.bits]
    omega)
  have HLEN : Hid ((S.lu.map fun x => (x.1, Value.pointer (some ⟨x.2.1, 0, none⟩))).length ≤ 100000) := hid (by rw [List.length_map]; omega)
  have HLU := hid hl
  clear h hs hk hl hun
  go_enter Try.func34, Try.ntmps34
  go_wp2_with fail
  refine (keys_call _ _).mono ?_
  rintro e w' ⟨rfl, rfl⟩
  go_wp2_with fail
  refine (sorted_call S.un _ w HMAP.out HWF.out HLEN.out).mono ?_
  rintro e w1 ⟨v1, ks, rfl, hp, hperm, hrow, hn⟩
  have HP := hid hp
  have HKN : Hid (ks.Nodup) := hid (by
    have h1 := H.out.units.keys
    have h2 : (S.lu.map fun x => (x.1, Value.pointer (some ⟨x.2.1, 0, none⟩))).map (·.1) = S.lu.map (·.1) := by rw [List.map_map]; rfl
    rw [h2] at hperm
    exact hperm.symm.nodup h1)
  have HIN : Hid (∀ n ∈ ks, ∃ x ∈ S.lu, x.1 = n) := hid (fun n hn => by
    have := hperm.mem_iff.1 hn
    rw [List.map_map] at this
    obtain ⟨x, hx, e⟩ := List.mem_map.1 this
    exact ⟨x, hx, e⟩)
  have HALL : Hid (∀ n, Live (W.unit n) → n ∈ ks) := hid (fun n hn => by
    rw [hperm.mem_iff, List.map_map]
    by_cases hx : ∀ x ∈ S.lu, x.1 ≠ n
    · have := H.out.units.none n hx
      rw [this] at hn
      cases hn.1
    · simp only [Classical.not_forall] at hx
      obtain ⟨x, hx, hxn⟩ := hx
      exact List.mem_map.2 ⟨x, hx, Classical.not_not.1 hxn⟩)
  have HKL : Hid (ks.length ≤ 10000) := hid (by rw [hperm.length_eq, List.length_map, List.length_map]; exact HLU.out)
  obtain ⟨pk, ck, rfl⟩ := own_len hrow
  have HROW : Hid (RowAt w1 (.slice pk ks.length ck) ks.length (ks.map (Value.int .i64))) := hid (RowAt.owned hrow)
  have HN := hid hn
  have HZ : Hid (ks.length ≤ ck ∧ ck ≤ maxLen) := hid (by obtain ⟨p, c, e, h1, h2, _⟩ := HROW.out; injection e with _ _ e; subst e; exact ⟨h1, h2⟩)
  clear hp hperm hrow hn c0 c1 c2 c3 c4
  obtain ⟨hz1, hz2⟩ := HZ.out
  unfold maxLen at hz2
  go_wp2_with fail
  go_loopw [3, 5, 6, 7, 15] (fun o _ _ _ i wq => ∃ k : Nat, k ≤ ks.length ∧ i = .int .i64 k ∧ Hid (Coll w1 wq o (opensOf W.unit (ks.take k)))) (fun _ _ _ _ i _ => ks.length - (intOf i).toNat)
  case atStart => exact ⟨0, Nat.zero_le _, rfl, hid ⟨World.ownsRow_nil _ _ _ _, New.refl w1⟩⟩
  case round =>
    obtain ⟨k, hk, rfl, hC⟩ := hrel
    by_cases hlt : k < ks.length
    · have HTK : Hid (ks.take (k + 1) = ks.take k ++ [ks[k]]) := hid (List.take_append_getElem hlt).symm
      obtain ⟨x, hx, hxn⟩ := HIN.out _ (List.getElem_mem hlt)
      obtain ⟨p0, c0, e0, -, -, hcell⟩ := HROW.out
      injection e0 with e01 _ e03
      obtain ⟨gk, ok, e04, hgk, hck⟩ := hcell (by omega)
      have hck2 := hck k (by rw [List.length_map]; exact hlt)
      have hcv : (ks.map (Value.int .i64)).getD k undef = .int .i64 ks[k] := by
        rw [List.getD_eq_getElem?_getD, List.getElem?_map, List.getElem?_eq_getElem hlt]
        rfl
      rw [hcv] at hck2
      subst e01 e03 e04
      have y1 := (hC.out.new.cell gk (ok + k) hgk).trans hck2
      clear hcell hck hck2 hcv
      have HW := hid (H.out.newer (HN.out.trans hC.out.new))
      have HOS := hid (opensOf_snoc W.unit (ks.take k) ks[k])
      have HGO : Hid (∀ o wq, Coll w1 wq o (opensOf W.unit (ks.take k) ++ if Live (W.unit ks[k]) then [openOf ks[k] (W.unit ks[k])] else []) → ∃ k' : Nat, k' ≤ ks.length ∧ Value.int .i64 ((k : Int) + 1) = .int .i64 k' ∧ Hid (Coll w1 wq o (opensOf W.unit (ks.take k')))) := hid (fun o wq hc => ⟨k + 1, by omega, by simp, hid (by rw [HTK.out, HOS.out]; exact hc)⟩)
      have HML : Hid ((opensOf W.unit (ks.take k)).length ≤ 10000) := hid (by
        unfold opensOf
        rw [List.length_map]
        have h1 := List.length_filter_le (fun n => decide (Live (W.unit n))) (ks.take k)
        have h2 := List.length_take_le k ks
        have := HKL.out
        omega)
      generalize ks[k] = n at *
      obtain ⟨xn, xb, xv⟩ := x
      obtain rfl : xn = n := hxn
      have lk := run_look (t := 62) (k := 3) (e := 67) Try.underlying62 Try.underlying3 (Try.zeroValue67 wr) HW.out.units.map xn
      rw [look_some HW.out.units.map.nodup (List.mem_map_of_mem hx)] at lk
      have lk : (Instr.lookup 62 (.map (some S.un)) (.int .i64 xn) false).run Try.prog wr = .ok (.pointer (some ⟨xb, 0, none⟩)) wr := lk
      obtain ⟨hu1, hu2⟩ := HW.out.units.unit _ hx
      obtain ⟨lp, lc, hlv⟩ := own_len hu2
      have HU2 := hid hu2
      have uc0 : wr.cell? ⟨xb, 0, none⟩ = some (.int .i64 (W.unit xn).st) := cells_of hu1 0
      have uc1 : wr.cell? ⟨xb, 1, none⟩ = some (.slice lp (W.unit xn).left.length lc) := by rw [← hlv]; exact cells_of hu1 1
      have uc2 : wr.cell? ⟨xb, 2, none⟩ = some (.string (W.unit xn).text) := cells_of hu1 2
      have uc3 : wr.cell? ⟨xb, 3, none⟩ = some (.bool (W.unit xn).seen) := cells_of hu1 3
      have hxlt : xb < wr.heap.size := (Array.getElem?_eq_some_iff.1 hu1).1
      obtain ⟨d0, d1, d2, d3, d4⟩ := HW.out.cells
      obtain ⟨hs0, hs1⟩ := HS.out.st xn
      have HLV : Hid (xv = .slice lp (W.unit xn).left.length lc) := hid hlv
      have HLL2 := hid (HS.out.lefts xn)
      clear hx hu1 hu2 hlv d0 d1 d2 d4
      obtain ⟨po, co, rfl⟩ := own_len hC.out.row
      have HC := hid hC.out
      clear hC
      generalize W.unit xn = U at *
      generalize hmm : opensOf W.unit (ks.take k) = ml at *
      have HMM := hid hmm
      clear hmm
      generalize hm0 : ml.length = m at *
      have HM0 := hid hm0
      have HROW2 : Hid (wr.ownsRow w1.heap.size 47 3 (.slice po m co) m (opnVals ml)) := hid (by have := HC.out.row; rw [HM0.out] at this; exact this)
      clear hm0
      by_cases hseen : U.seen = true
      case neg =>
        have hseen : U.seen = false := by simpa using hseen
        rw [hseen] at uc3
        have HNL : Hid (¬ Live U) := hid (fun h => by have := h.1; rw [hseen] at this; cases this)
        clear hseen
        go_wp2
        go_roundw
        case rel => exact HGO.out _ _ (by rw [if_neg HNL.out, List.append_nil]; exact HC.out)
        case measure => simp [intOf]; omega
      rw [hseen] at uc3
      have HSE := hid hseen
      clear hseen
      by_cases hst : U.st ≤ 1
      case neg =>
        have t2 : decide (U.st ≤ 1) = false := by simpa using hst
        have HNL : Hid (¬ Live U) := hid (fun h => hst h.2)
        clear hst
        go_wp2
        go_roundw
        case rel => exact HGO.out _ _ (by rw [if_neg HNL.out, List.append_nil]; exact HC.out)
        case measure => simp [intOf]; omega
      have t2 : decide (U.st ≤ 1) = true := by simpa using hst
      have HLIVE : Hid (Live U) := hid ⟨HSE.out, hst⟩
      clear hst
      generalize hz : U.left.length = z at *
      have HZL := hid hz
      have hz10 := HLL2.out
      by_cases hz0 : z = 0
      · have HNX : Hid (lastN U.left = 0) := hid (by
          have : U.left = [] := List.eq_nil_of_length_eq_zero (by rw [hz]; exact hz0)
          rw [this]
          rfl)
        subst hz0
        clear hz
        have NX := hid (Below.alloc (Below.alloc (New.refl wr) (Nat.le_refl _) (.cells #[.int .i64 xn, .int .i64 0, .string U.text] 47)) (by simp) (.cells #[.int .i64 xn, .int .i64 0, .string U.text] 47))
        have HB2 : Hid (((wr.alloc (.cells #[.int .i64 xn, .int .i64 0, .string U.text] 47)).alloc (.cells #[.int .i64 xn, .int .i64 0, .string U.text] 47)).heap[wr.heap.size + 1]? = some (.cells #[.int .i64 xn, .int .i64 0, .string U.text] 47 (0, 0))) := hid (by have := alloc_block (wr.alloc (.cells #[.int .i64 xn, .int .i64 0, .string U.text] 47)) (.cells #[.int .i64 xn, .int .i64 0, .string U.text] 47); simpa using this)
        have HSNOC := hid (opnVals_snoc ml ⟨xn, 0, U.text⟩)
        have HIF : Hid ((if Live U then [openOf xn U] else []) = [⟨xn, 0, U.text⟩]) := hid (by rw [if_pos HLIVE.out]; unfold openOf; rw [HNX.out]; rfl)
        go_wp2_with (at_builtin; refine app_opn rfl _ _ rfl (.slice po m co) m _ rfl w1.heap.size (own_old HROW2.out NX.out) (Nat.le_trans HC.out.new.size NX.out.size) (wr.heap.size + 1) ⟨xn, 0, U.text⟩ rfl (cells_of HB2.out) (by have := HML.out; omega) ?_)
        intro v9 w9 own9 grow9 blk9
        obtain ⟨p9, c9, rfl⟩ := own_len own9
        have HC9 : Hid (Coll w1 w9 (.slice p9 (m + 1) c9) (ml ++ [⟨xn, 0, U.text⟩])) := hid ⟨by rw [HSNOC.out, List.length_append, HM0.out]; exact own9, (HC.out.new.trans NX.out).grown grow9 (Nat.le_trans HC.out.new.size NX.out.size) (fun j hj => by obtain ⟨c, _, h⟩ := own_cells HC.out.row hj; exact h)⟩
        clear own9 grow9 blk9
        go_wp2
        go_roundw
        case rel => exact HGO.out _ _ (by rw [HIF.out]; exact HC9.out)
        case measure => simp [intOf]; omega
      · have hz1' : 0 < z := by omega
        obtain ⟨zl, hzl⟩ : ∃ zl, z = zl + 1 := ⟨z - 1, by omega⟩
        have hzl2 : zl < z := by omega
        have hzw : IntKind.i64.wrap ((z : Int) - 1) = (zl : Int) := by rw [hzl, Int.natCast_succ, Int.add_sub_cancel]; exact IntWalk.i64_in _ (by omega)
        have hgt : decide (0 < z) = true := by simpa using hz1'
        obtain ⟨p1, c1, e1, -, -, hcell⟩ := RowAt.owned HU2.out
        rw [HLV.out] at e1
        injection e1 with e11 _ e13
        subst e11 e13
        obtain ⟨gL, oL, e14, hgL, hcL⟩ := hcell (by first | (rw [hz]; exact hz1') | exact hz1')
        subst e14
        have y2 := hcL zl (by unfold natVals; rw [List.length_map, hz]; exact hzl2)
        have hcv := natVals_last (l := U.left) (zl := zl) (by rw [hz, hzl])
        rw [hcv] at y2
        clear hcell hcL hcv hzl hz hz0
        generalize hla : lastN U.left = la at *
        have HLA := hid hla
        clear hla
        go_wp2_with fail
        go_region_with (fail)
        all_goals
          clear hzw hgt
          have NX := hid ((Below.alloc (Below.alloc (New.refl wr) (Nat.le_refl _) (.cells #[.int .i64 xn, .int .i64 (la : Int), .string U.text] 47)) (by simp) (.cells #[.int .i64 xn, .int .i64 (la : Int), .string U.text] 47)).drew)
          have HB2 : Hid ((((wr.alloc (.cells #[.int .i64 xn, .int .i64 (la : Int), .string U.text] 47)).alloc (.cells #[.int .i64 xn, .int .i64 (la : Int), .string U.text] 47)).drew).heap[wr.heap.size + 1]? = some (.cells #[.int .i64 xn, .int .i64 (la : Int), .string U.text] 47 (0, 0))) := hid (by have := alloc_block (wr.alloc (.cells #[.int .i64 xn, .int .i64 (la : Int), .string U.text] 47)) (.cells #[.int .i64 xn, .int .i64 (la : Int), .string U.text] 47); rw [show (wr.alloc (.cells #[.int .i64 xn, .int .i64 (la : Int), .string U.text] 47)).heap.size = wr.heap.size + 1 by simp] at this; exact this)
          have HSNOC := hid (opnVals_snoc ml ⟨xn, la, U.text⟩)
          have HIF : Hid ((if Live U then [openOf xn U] else []) = [⟨xn, la, U.text⟩]) := hid (by rw [if_pos HLIVE.out]; unfold openOf; rw [HLA.out])
          go_wp2_with (at_builtin; refine app_opn rfl _ _ rfl (.slice po m co) m _ rfl w1.heap.size (own_old HROW2.out NX.out) (Nat.le_trans HC.out.new.size NX.out.size) (wr.heap.size + 1) ⟨xn, la, U.text⟩ rfl (cells_of HB2.out) (by have := HML.out; omega) ?_)
          intro v9 w9 own9 grow9 blk9
          obtain ⟨p9, c9, rfl⟩ := own_len own9
          have HC9 : Hid (Coll w1 w9 (.slice p9 (m + 1) c9) (ml ++ [⟨xn, la, U.text⟩])) := hid ⟨by rw [HSNOC.out, List.length_append, HM0.out]; exact own9, (HC.out.new.trans NX.out).grown grow9 (Nat.le_trans HC.out.new.size NX.out.size) (fun j hj => by obtain ⟨c, _, h⟩ := own_cells HC.out.row hj; exact h)⟩
          clear own9 grow9 blk9
          go_wp2
          go_roundw
          case rel => exact HGO.out _ _ (by rw [HIF.out]; exact HC9.out)
          case measure => simp [intOf]; omega
    · obtain rfl : k = ks.length := by omega
      have HFIN : Hid (opensOf W.unit (ks.take ks.length) = opensOf W.unit ks) := hid (by rw [List.take_length])
      go_wp2
      go_ret
      refine ⟨_, opensOf W.unit ks, rfl, opensOf_is HP.out HKN.out HALL.out, ?_, HN.out.trans hC.out.new⟩
      rw [← HFIN.out]
      exact ownsRow_base_a hC.out.row HN.out.size
end Go.Proofs.Ytmchbciofdokfaa
