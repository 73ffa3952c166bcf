/- The specification's disk: Write, Flush. -/
import Derived.Test.YtbclgklpcbajfaaD31
import Derived.BigRegion
namespace Go.Proofs.Ytbclgklpcbajfaa
open Go.RowKit
set_option linter.unusedSimpArgs false
set_option linter.unusedVariables false

theorem info143 : (Try.prog.info? 143).map (fun i => (i.zero, i.size, i.bytes)) = some (some (.agg #[.int .i64 0, .string ByteArray.empty]), 2, 24) := by kernel_rfl

set_option maxRecDepth 10000 in
/-- append(d.waits, write{n, text}), as a step of a region that draws. -/
theorem step_text {ops : Array Oper} {o : Oper} {a : Act} {w : World} {K : Act → World → Prop} {Q : Exit → Act → World → Prop} {E : Prop} (hgd : o.guard = none) (sl x : Operand)
    (ho : o.op = .call { callee := .builtin .append, args := #[sl, x], argTypes := #[54, 54] })
    (v : Value) (n : Nat) (xs : List Value) (hs : a.eval sl = v) (hown : w.ownsRow 0 143 2 v n xs) (k : Nat) (c0 c1 : Value) (hx : a.eval x = .slice (some ⟨k, 0, none⟩) 1 1) (h0 : w.cell? ⟨k, 0, none⟩ = some c0) (h1 : w.cell? ⟨k, 1, none⟩ = some c1)
    (o0 : c0.oneCell' = true) (o1 : c1.oneCell' = true) (hb : n ≤ 1000000000)
    (h : ∀ g cap w', w'.ownsRow 0 143 2 (.slice (some ⟨g, 0, none⟩) (n + 1) cap) (n + 1) (xs ++ [c0, c1]) → w.grownBy w' v.ownBlock → (v.ownBlock = some g ∨ g = w.heap.size) → K (a.put o.dst (.slice (some ⟨g, 0, none⟩) (n + 1) cap)) w') :
    if Region.wanted o (yielded ops a.tmps) = true then Oper.wp Try.prog o a w K Q else E := by
  obtain ⟨i0, hi, hz0, hz1, hz2⟩ := info_parts info143
  refine step_append_lies w hgd sl x 54 ho 0 143 i0 _ 2 24 Try.underlying54 hi hz0 hz1 hz2 rfl (by decide) v n xs hs hown ⟨k, 0, none⟩ 1 1 [c0, c1] hx rfl (fun j u hj => ?_) (fun u hu => ?_) (by omega) (by unfold maxLen; omega) (by omega) (Nat.zero_le _) _ rfl fun g cap w' h1 h2 h3 _ => h g cap w' h1 h2 h3
  · match j, hj with
    | 0, hj => simp at hj; subst hj; exact h0
    | 1, hj => simp at hj; subst hj; exact h1
  · simp at hu
    rcases hu with rfl | rfl
    · exact o0
    · exact o1

/-- The row of waiting writes laid anew. -/
theorem RefIs.relaid {w1 w3 : World} {b : Nat} {f : Nat → Value} {ow : Option Nat} {A : ADisk} (hr : Raw w1 b 56 3125 f) (hi : RefIs w1 f ow A) (ht : Turn (fun k => ow = some k) w1 w3) {v : Value} {l : List (Nat × ByteArray)}
    (hown : w3.ownsRow 0 143 2 v l.length (waitVals l)) (hin : ∀ p ∈ l, p.1 < 3120) :
    RefAt (w3.setCell ⟨b, 3120, none⟩ v) b v.ownBlock { A with waits := l } ∧ Turn (its b ow) w1 (w3.setCell ⟨b, 3120, none⟩ v) := by
  have hr3 : Raw w3 b 56 3125 f := hr.turn ht (fun h => ref_ne hr hi b h rfl)
  have hset : Turn (· = b) w3 (w3.setCell ⟨b, 3120, none⟩ v) := Turn.setCell (S := (· = b)) (p := ⟨b, 3120, none⟩) (Turn.refl _ w3) rfl v
  refine ⟨⟨_, hr3.set 3120 v, ?_⟩, (ht.mono fun k _ h => .inr h).trans (hset.mono fun k _ h => .inl h)⟩
  have hvb : ∀ k, v.ownBlock = some k → ¬ k = b := by
    intro k hk e
    subst e
    obtain ⟨c, hc⟩ := own_base hown hk
    exact hr3.typed (by decide) c (0, 0) hc
  constructor
  case safe => exact fun i h => by rw [upd_other _ _ (by omega)]; exact hi.safe i h
  case own => rw [upd_same]; exact own_turn hown hset hvb
  case blk => rw [upd_same]
  case armed => rw [upd_other _ _ (by decide)]; exact hi.armed
  case down => rw [upd_other _ _ (by decide)]; exact hi.down
  case acts => rw [upd_other _ _ (by decide)]; exact hi.acts
  case falls => rw [upd_other _ _ (by decide)]; exact hi.falls
  case inside => exact hin
  case armed0 => exact hi.armed0
  case acts0 => exact hi.acts0
  case falls0 => exact hi.falls0

/-- One block laid anew. -/
theorem RefIs.lay {w : World} {b : Nat} {f : Nat → Value} {ow : Option Nat} {A : ADisk} (hr : Raw w b 56 3125 f) (hi : RefIs w f ow A) {n : Nat} (hn : n < 3120) (s : ByteArray) :
    RefIs (w.setCell ⟨b, n, none⟩ (.string s)) (upd f n (.string s)) ow { A with safe := lay1 A.safe (n, s) } := by
  have d := hi.turn (Turn.setCell (S := (· = b)) (p := ⟨b, n, none⟩) (Turn.refl _ w) rfl (.string s)) (ref_ne hr hi)
  constructor
  case safe =>
    intro i h
    by_cases e : i = n
    · subst e; rw [upd_same]; simp [lay1]
    · rw [upd_other _ _ e]; simp only [lay1, if_neg e]; exact d.safe i h
  case own => rw [upd_other _ _ (by omega)]; exact d.own
  case blk => rw [upd_other _ _ (by omega)]; exact d.blk
  case armed => rw [upd_other _ _ (by omega)]; exact d.armed
  case down => rw [upd_other _ _ (by omega)]; exact d.down
  case acts => rw [upd_other _ _ (by omega)]; exact d.acts
  case falls => rw [upd_other _ _ (by omega)]; exact d.falls
  case inside => exact d.inside
  case armed0 => exact d.armed0
  case acts0 => exact d.acts0
  case falls0 => exact d.falls0

set_option maxHeartbeats 4000000 in
set_option maxRecDepth 100000 in
theorem refWrite_any (b : Nat) (ow : Option Nat) (A : ADisk) (n : Int) (v : Value) (s : ByteArray) (w : World) (h : RefAt w b ow A) (hv : Bytes w v s) (hvb : 0 < s.size → ∀ k, v.ownBlock = some k → ¬ k = b) (hb : A.falls ≤ 1000000000) (hb2 : A.acts ≤ 1000000000) (hb3 : A.waits.length ≤ 1000000000) :
    Calls Try.prog 70 #[.pointer (some ⟨b, 0, none⟩), .int .i64 n, v] w (RefMoved b ow (.int .i64 (writeE A n s)) (writeA A n s) w) := by
  have H := hid h
  have HV := hid hv
  obtain ⟨f, hr, hd⟩ := h
  have c2 := hr.cell 3122 (by omega)
  rw [hd.down] at c2
  obtain ⟨p, c, rfl, g1, g2, _⟩ := hv
  unfold maxLen at g2
  clear hr hd
  have HVB := hid hvb
  clear hvb
  have stay : Hid (RefMoved b ow (.int .i64 2) A w (.returned (.int .i64 2)) w) := hid ⟨rfl, ow, H.out, fun k hk => .inl hk, Turn.refl _ _⟩
  cases hn : isB n with
  | false =>
    have e1 : writeE A n s = 2 := by simp [writeE, hn]
    have e2 : writeA A n s = A := by simp [writeA, hn]
    rw [e1, e2]
    go_enter Try.func70, Try.ntmps70
    go_wp2_with fail
    refine (refIsBlock_any n w).mono ?_
    rintro e w' ⟨rfl, rfl⟩
    rw [hn]
    go_wp2
    go_ret
    exact stay.out
  | true =>
    by_cases hs : s.size ≤ 340
    case neg =>
      have e1 : writeE A n s = 2 := by simp [writeE, hn]; omega
      have e2 : writeA A n s = A := by simp [writeA, hn]; omega
      rw [e1, e2]
      go_enter Try.func70, Try.ntmps70
      go_wp2_with fail
      refine (refIsBlock_any n w).mono ?_
      rintro e w' ⟨rfl, rfl⟩
      rw [hn]
      go_wp2
      go_ret
      exact stay.out
    clear stay
    cases hdn : A.down with
    | true =>
      have h0 : actE A = 7 := by simp [actE, hdn]
      have e1 : writeE A n s = 7 := by
        have : ¬ 340 < s.size := by omega
        simp [writeE, hn, h0, this]
      have e2 : writeA A n s = A := by
        have : ¬ 340 < s.size := by omega
        simp [writeA, hn, h0, this]
        simp [actA, hdn]
      rw [e1, e2]
      rw [hdn] at c2
      go_enter Try.func70, Try.ntmps70
      go_wp2_with fail
      refine (refIsBlock_any n w).mono ?_
      rintro e w' ⟨rfl, rfl⟩
      rw [hn]
      go_wp2
      go_ret
      exact ⟨rfl, ow, H.out, fun k hk => .inl hk, Turn.refl _ _⟩
    | false =>
      rw [hdn] at c2
      by_cases ha : actE A = 0
      case neg =>
        have h7 : actE A = 7 := by
          simp only [actE, hdn] at ha ⊢
          split at ha <;> simp_all
        have e1 : writeE A n s = 7 := by
          have : ¬ 340 < s.size := by omega
          simp [writeE, hn, h7, this]
        have e2 : writeA A n s = actA A := by
          have : ¬ 340 < s.size := by omega
          simp [writeA, hn, h7, this]
        rw [e1, e2]
        go_enter Try.func70, Try.ntmps70
        go_wp2_with fail
        refine (refIsBlock_any n w).mono ?_
        rintro e w' ⟨rfl, rfl⟩
        rw [hn]
        go_wp2_with fail
        refine (refAct_any b ow A w H.out hdn hb hb2).mono ?_
        rintro e w1 ⟨rfl, h1, ht1⟩
        rw [decide_eq_false ha]
        go_wp2
        go_ret
        exact ⟨rfl, ow, h1, fun k hk => .inl hk, ht1.mono fun k _ h => .inl h⟩
      have e1 : writeE A n s = 0 := by
        have : ¬ 340 < s.size := by omega
        simp [writeE, hn, ha, this]
      rw [e1, writeA_yes hn hs ha]
      go_enter Try.func70, Try.ntmps70
      go_wp2_with fail
      refine (refIsBlock_any n w).mono ?_
      rintro e w' ⟨rfl, rfl⟩
      rw [hn]
      go_wp2_with fail
      refine (refAct_any b ow A w H.out hdn hb hb2).mono ?_
      rintro e w1 ⟨rfl, h1, ht1⟩
      rw [decide_eq_true ha]
      obtain ⟨f1, hr1, hi1⟩ := h1
      have c1 := hr1.cell 3120 (by omega)
      have z1 := hr1.frozen 3120
      obtain ⟨q, k, ew, _⟩ := ref_slice hi1
      have hlt := hr1.lt
      have hle : (actA A).waits.length ≤ 1000000000 := by rw [actA_waits]; exact hb3
      rw [ew] at c1
      have hx' := hi1.own
      rw [ew] at hx'
      have hqb : ∀ k', (Value.slice q (actA A).waits.length k).ownBlock = some k' → ¬ k' = b := fun k' h => ref_ne hr1 hi1 k' (by rw [← hi1.blk, ew]; exact h)
      have HX' := hid hx'
      have HR := hid hr1
      have HI := hid hi1
      have HE := hid ew
      have HL := hid hle
      have HQ := hid hqb
      have HT1 := hid ht1
      have kc := Bytes.convert (P := Try.prog) (RowAt.new (Bytes.turn HV.out ht1 HVB.out) (New.refl w1).drew) 22 5 9 Try.underlying22 Try.underlying5 Try.underlying9
      clear hr1 hi1 ew hx' hle hqb ht1 ha e1 c2 hdn
      go_wp2
      have HN4 := hid (((New.refl w1).alloc #[.int .i64 n, .string s] 143).drew)
      go_region_law (refine step_text rfl _ _ rfl _ _ _ rfl (own_old HX'.out HN4.out) w1.heap.size (.int .i64 n) (.string s) rfl (by simp) (by simp) rfl rfl HL.out ?_; intro g4 k4 w4 own4 grow4 blk4; have l4 : b < (w1.alloc (.cells #[.int .i64 n, .string s] 143)).drew.heap.size := (by simp; omega); have c4 := grow4.cell_far ⟨b, 3120, none⟩ l4 (fun e => HQ.out _ e.symm rfl); have z4 := grow4.frozen_far ⟨b, 3120, none⟩ l4 (fun e => HQ.out _ e.symm rfl); rw [HN4.out.cell b 3120 hlt, c1] at c4; rw [(bcell HN4.out).2 b 3120 hlt, z1] at z4)
      all_goals
        go_wp2
        go_ret
        have ht4 : Turn (fun k => ow = some k) w1 w4 := (Turn.of_new HN4.out).grown grow4 (fun k' _ h => by rw [← HI.out.blk, HE.out]; exact h)
        have hw : waitVals ((actA A).waits ++ [(n.toNat, s)]) = waitVals (actA A).waits ++ [.int .i64 n, .string s] := by
          rw [waitVals_snoc, show ((n.toNat : Nat) : Int) = n by unfold isB at hn; simp at hn; omega]
        obtain ⟨hd, ht⟩ := HI.out.relaid HR.out ht4 (v := .slice (some ⟨g4, 0, none⟩) ((actA A).waits.length + 1) k4) (l := (actA A).waits ++ [(n.toNat, s)]) (by rw [hw]; simpa using own4) (fun p hp => by
          rcases List.mem_append.1 hp with h | h
          · exact HI.out.inside p h
          · simp at h; subst h; exact isB_lt hn)
        refine ⟨rfl, _, hd, fun k' hk' => ?_, (HT1.out.mono fun k _ h => .inl h).trans ht⟩
        rcases blk4 with h | h
        · exact .inl (by rw [← HI.out.blk, HE.out]; exact h.trans (show some g4 = some k' from hk'))
        · refine .inr ?_
          have hk2 : some g4 = some k' := hk'
          injection hk2 with hk2
          subst hk2
          have := HT1.out.size
          have h2 : g4 = w1.heap.size + 1 := by rw [h]; simp
          omega

end Go.Proofs.Ytbclgklpcbajfaa
