/- The specification's disk: Write, Flush. The specification's disk: Flush, Crash. A disk and the specification's disk side by side (Pair), alike (Like). -/
import Derived.Test.YtdccbceaajnajaaGreatD31
import Derived.BigRegion
import Derived.Test.YtdccbceaajnajaaGreatD46
namespace Go.Proofs.YtdccbceaajnajaaGreat
open Go.RowKit
set_option linter.unusedSimpArgs false
set_option linter.unusedVariables false

theorem info143 : (Tryz.prog.info? 143).map (fun i => (i.zero, i.size, i.bytes)) = some (some (.agg #[.int .i64 0, .string ByteArray.empty]), 2, 24) := by kernel_rfl

set_option maxRecDepth 10000 in
/-- append(d.waits, write{n, text}), as a step of a region that draws. -/
theorem step_text {ops : Array Oper} {o : Oper} {a : Act} {w : World} {K : Act → World → Prop} {Q : Exit → Act → World → Prop} {E : Prop} (hgd : o.guard = none) (sl x : Operand)
    (ho : o.op = .call { callee := .builtin .append, args := #[sl, x], argTypes := #[62, 62] })
    (v : Value) (n : Nat) (xs : List Value) (hs : a.eval sl = v) (hown : w.ownsRow 0 143 2 v n xs) (k : Nat) (c0 c1 : Value) (hx : a.eval x = .slice (some ⟨k, 0, none⟩) 1 1) (h0 : w.cell? ⟨k, 0, none⟩ = some c0) (h1 : w.cell? ⟨k, 1, none⟩ = some c1)
    (o0 : c0.oneCell' = true) (o1 : c1.oneCell' = true) (hb : n ≤ 1000000000)
    (h : ∀ g cap w', w'.ownsRow 0 143 2 (.slice (some ⟨g, 0, none⟩) (n + 1) cap) (n + 1) (xs ++ [c0, c1]) → w.grownBy w' v.ownBlock → (v.ownBlock = some g ∨ g = w.heap.size) → K (a.put o.dst (.slice (some ⟨g, 0, none⟩) (n + 1) cap)) w') :
    if Region.wanted o (yielded ops a.tmps) = true then Oper.wp Tryz.prog o a w K Q else E := by
  obtain ⟨i0, hi, hz0, hz1, hz2⟩ := info_parts info143
  refine step_append_lies w hgd sl x 62 ho 0 143 i0 _ 2 24 Tryz.underlying62 hi hz0 hz1 hz2 rfl (by decide) v n xs hs hown ⟨k, 0, none⟩ 1 1 [c0, c1] hx rfl (fun j u hj => ?_) (fun u hu => ?_) (by omega) (by unfold maxLen; omega) (by omega) (Nat.zero_le _) _ rfl fun g cap w' h1 h2 h3 _ => h g cap w' h1 h2 h3
  · match j, hj with
    | 0, hj => simp at hj; subst hj; exact h0
    | 1, hj => simp at hj; subst hj; exact h1
  · simp at hu
    rcases hu with rfl | rfl
    · exact o0
    · exact o1

/-- The row of waiting writes laid anew. -/
theorem RefIs.relaid {w1 w3 : World} {b : Nat} {f : Nat → Value} {ow : Option Nat} {A : ADisk} (hr : Raw w1 b 64 3125 f) (hi : RefIs w1 f ow A) (ht : Turn (fun k => ow = some k) w1 w3) {v : Value} {l : List (Nat × ByteArray)}
    (hown : w3.ownsRow 0 143 2 v l.length (waitVals l)) (hin : ∀ p ∈ l, p.1 < 3120) :
    RefAt (w3.setCell ⟨b, 3120, none⟩ v) b v.ownBlock { A with waits := l } ∧ Turn (its b ow) w1 (w3.setCell ⟨b, 3120, none⟩ v) := by
  have hr3 : Raw w3 b 64 3125 f := hr.turn ht (fun h => ref_ne hr hi b h rfl)
  have hset : Turn (· = b) w3 (w3.setCell ⟨b, 3120, none⟩ v) := Turn.setCell (S := (· = b)) (p := ⟨b, 3120, none⟩) (Turn.refl _ w3) rfl v
  refine ⟨⟨_, hr3.set 3120 v, ?_⟩, (ht.mono fun k _ h => .inr h).trans (hset.mono fun k _ h => .inl h)⟩
  have hvb : ∀ k, v.ownBlock = some k → ¬ k = b := by
    intro k hk e
    subst e
    obtain ⟨c, hc⟩ := own_base hown hk
    exact hr3.typed (by decide) c (0, 0) hc
  constructor
  case safe => exact fun i h => by rw [upd_other _ _ (by omega)]; exact hi.safe i h
  case own => rw [upd_same]; exact own_turn hown hset hvb
  case blk => rw [upd_same]
  case armed => rw [upd_other _ _ (by decide)]; exact hi.armed
  case down => rw [upd_other _ _ (by decide)]; exact hi.down
  case acts => rw [upd_other _ _ (by decide)]; exact hi.acts
  case falls => rw [upd_other _ _ (by decide)]; exact hi.falls
  case inside => exact hin
  case armed0 => exact hi.armed0
  case acts0 => exact hi.acts0
  case falls0 => exact hi.falls0

/-- One block laid anew. -/
theorem RefIs.lay {w : World} {b : Nat} {f : Nat → Value} {ow : Option Nat} {A : ADisk} (hr : Raw w b 64 3125 f) (hi : RefIs w f ow A) {n : Nat} (hn : n < 3120) (s : ByteArray) :
    RefIs (w.setCell ⟨b, n, none⟩ (.string s)) (upd f n (.string s)) ow { A with safe := lay1 A.safe (n, s) } := by
  have d := hi.turn (Turn.setCell (S := (· = b)) (p := ⟨b, n, none⟩) (Turn.refl _ w) rfl (.string s)) (ref_ne hr hi)
  constructor
  case safe =>
    intro i h
    by_cases e : i = n
    · subst e; rw [upd_same]; simp [lay1]
    · rw [upd_other _ _ e]; simp only [lay1, if_neg e]; exact d.safe i h
  case own => rw [upd_other _ _ (by omega)]; exact d.own
  case blk => rw [upd_other _ _ (by omega)]; exact d.blk
  case armed => rw [upd_other _ _ (by omega)]; exact d.armed
  case down => rw [upd_other _ _ (by omega)]; exact d.down
  case acts => rw [upd_other _ _ (by omega)]; exact d.acts
  case falls => rw [upd_other _ _ (by omega)]; exact d.falls
  case inside => exact d.inside
  case armed0 => exact d.armed0
  case acts0 => exact d.acts0
  case falls0 => exact d.falls0

set_option maxHeartbeats 4000000 in
set_option maxRecDepth 100000 in
theorem refWrite_any (b : Nat) (ow : Option Nat) (A : ADisk) (n : Int) (v : Value) (s : ByteArray) (w : World) (h : RefAt w b ow A) (hv : Bytes w v s) (hvb : 0 < s.size → ∀ k, v.ownBlock = some k → ¬ k = b) (hb : A.falls ≤ 1000000000) (hb2 : A.acts ≤ 1000000000) (hb3 : A.waits.length ≤ 1000000000) :
    Calls Tryz.prog 65 #[.pointer (some ⟨b, 0, none⟩), .int .i64 n, v] w (RefMoved b ow (.int .i64 (writeE A n s)) (writeA A n s) w) := by
  have H := hid h
  have HV := hid hv
  obtain ⟨f, hr, hd⟩ := h
  have c2 := hr.cell 3122 (by omega)
  rw [hd.down] at c2
  obtain ⟨p, c, rfl, g1, g2, _⟩ := hv
  unfold maxLen at g2
  clear hr hd
  have HVB := hid hvb
  clear hvb
  have stay : Hid (RefMoved b ow (.int .i64 2) A w (.returned (.int .i64 2)) w) := hid ⟨rfl, ow, H.out, fun k hk => .inl hk, Turn.refl _ _⟩
  cases hn : isB n with
  | false =>
    have e1 : writeE A n s = 2 := by simp [writeE, hn]
    have e2 : writeA A n s = A := by simp [writeA, hn]
    rw [e1, e2]
    go_enter Tryz.func65, Tryz.ntmps65
    go_wp2_with fail
    refine (refIsBlock_any n w).mono ?_
    rintro e w' ⟨rfl, rfl⟩
    rw [hn]
    go_wp2
    go_ret
    exact stay.out
  | true =>
    by_cases hs : s.size ≤ 340
    case neg =>
      have e1 : writeE A n s = 2 := by simp [writeE, hn]; omega
      have e2 : writeA A n s = A := by simp [writeA, hn]; omega
      rw [e1, e2]
      go_enter Tryz.func65, Tryz.ntmps65
      go_wp2_with fail
      refine (refIsBlock_any n w).mono ?_
      rintro e w' ⟨rfl, rfl⟩
      rw [hn]
      go_wp2
      go_ret
      exact stay.out
    clear stay
    cases hdn : A.down with
    | true =>
      have h0 : actE A = 7 := by simp [actE, hdn]
      have e1 : writeE A n s = 7 := by
        have : ¬ 340 < s.size := by omega
        simp [writeE, hn, h0, this]
      have e2 : writeA A n s = A := by
        have : ¬ 340 < s.size := by omega
        simp [writeA, hn, h0, this]
        simp [actA, hdn]
      rw [e1, e2]
      rw [hdn] at c2
      go_enter Tryz.func65, Tryz.ntmps65
      go_wp2_with fail
      refine (refIsBlock_any n w).mono ?_
      rintro e w' ⟨rfl, rfl⟩
      rw [hn]
      go_wp2
      go_ret
      exact ⟨rfl, ow, H.out, fun k hk => .inl hk, Turn.refl _ _⟩
    | false =>
      rw [hdn] at c2
      by_cases ha : actE A = 0
      case neg =>
        have h7 : actE A = 7 := by
          simp only [actE, hdn] at ha ⊢
          split at ha <;> simp_all
        have e1 : writeE A n s = 7 := by
          have : ¬ 340 < s.size := by omega
          simp [writeE, hn, h7, this]
        have e2 : writeA A n s = actA A := by
          have : ¬ 340 < s.size := by omega
          simp [writeA, hn, h7, this]
        rw [e1, e2]
        go_enter Tryz.func65, Tryz.ntmps65
        go_wp2_with fail
        refine (refIsBlock_any n w).mono ?_
        rintro e w' ⟨rfl, rfl⟩
        rw [hn]
        go_wp2_with fail
        refine (refAct_any b ow A w H.out hdn hb hb2).mono ?_
        rintro e w1 ⟨rfl, h1, ht1⟩
        rw [decide_eq_false ha]
        go_wp2
        go_ret
        exact ⟨rfl, ow, h1, fun k hk => .inl hk, ht1.mono fun k _ h => .inl h⟩
      have e1 : writeE A n s = 0 := by
        have : ¬ 340 < s.size := by omega
        simp [writeE, hn, ha, this]
      rw [e1, writeA_yes hn hs ha]
      go_enter Tryz.func65, Tryz.ntmps65
      go_wp2_with fail
      refine (refIsBlock_any n w).mono ?_
      rintro e w' ⟨rfl, rfl⟩
      rw [hn]
      go_wp2_with fail
      refine (refAct_any b ow A w H.out hdn hb hb2).mono ?_
      rintro e w1 ⟨rfl, h1, ht1⟩
      rw [decide_eq_true ha]
      obtain ⟨f1, hr1, hi1⟩ := h1
      have c1 := hr1.cell 3120 (by omega)
      have z1 := hr1.frozen 3120
      obtain ⟨q, k, ew, _⟩ := ref_slice hi1
      have hlt := hr1.lt
      have hle : (actA A).waits.length ≤ 1000000000 := by rw [actA_waits]; exact hb3
      rw [ew] at c1
      have hx' := hi1.own
      rw [ew] at hx'
      have hqb : ∀ k', (Value.slice q (actA A).waits.length k).ownBlock = some k' → ¬ k' = b := fun k' h => ref_ne hr1 hi1 k' (by rw [← hi1.blk, ew]; exact h)
      have HX' := hid hx'
      have HR := hid hr1
      have HI := hid hi1
      have HE := hid ew
      have HL := hid hle
      have HQ := hid hqb
      have HT1 := hid ht1
      have kc := Bytes.convert (P := Tryz.prog) (RowAt.new (Bytes.turn HV.out ht1 HVB.out) (New.refl w1).drew) 29 5 9 Tryz.underlying29 Tryz.underlying5 Tryz.underlying9
      clear hr1 hi1 ew hx' hle hqb ht1 ha e1 c2 hdn
      go_wp2
      have HN4 := hid (((New.refl w1).alloc #[.int .i64 n, .string s] 143).drew)
      go_region_law (refine step_text rfl _ _ rfl _ _ _ rfl (own_old HX'.out HN4.out) w1.heap.size (.int .i64 n) (.string s) rfl (by simp) (by simp) rfl rfl HL.out ?_; intro g4 k4 w4 own4 grow4 blk4; have l4 : b < (w1.alloc (.cells #[.int .i64 n, .string s] 143)).drew.heap.size := (by simp; omega); have c4 := grow4.cell_far ⟨b, 3120, none⟩ l4 (fun e => HQ.out _ e.symm rfl); have z4 := grow4.frozen_far ⟨b, 3120, none⟩ l4 (fun e => HQ.out _ e.symm rfl); rw [HN4.out.cell b 3120 hlt, c1] at c4; rw [(bcell HN4.out).2 b 3120 hlt, z1] at z4)
      all_goals
        go_wp2
        go_ret
        have ht4 : Turn (fun k => ow = some k) w1 w4 := (Turn.of_new HN4.out).grown grow4 (fun k' _ h => by rw [← HI.out.blk, HE.out]; exact h)
        have hw : waitVals ((actA A).waits ++ [(n.toNat, s)]) = waitVals (actA A).waits ++ [.int .i64 n, .string s] := by
          rw [waitVals_snoc, show ((n.toNat : Nat) : Int) = n by unfold isB at hn; simp at hn; omega]
        obtain ⟨hd, ht⟩ := HI.out.relaid HR.out ht4 (v := .slice (some ⟨g4, 0, none⟩) ((actA A).waits.length + 1) k4) (l := (actA A).waits ++ [(n.toNat, s)]) (by rw [hw]; simpa using own4) (fun p hp => by
          rcases List.mem_append.1 hp with h | h
          · exact HI.out.inside p h
          · simp at h; subst h; exact isB_lt hn)
        refine ⟨rfl, _, hd, fun k' hk' => ?_, (HT1.out.mono fun k _ h => .inl h).trans ht⟩
        rcases blk4 with h | h
        · exact .inl (by rw [← HI.out.blk, HE.out]; exact h.trans (show some g4 = some k' from hk'))
        · refine .inr ?_
          have hk2 : some g4 = some k' := hk'
          injection hk2 with hk2
          subst hk2
          have := HT1.out.size
          have h2 : g4 = w1.heap.size + 1 := by rw [h]; simp
          omega

end Go.Proofs.YtdccbceaajnajaaGreat

namespace Go.Proofs.YtdccbceaajnajaaGreat
open Go.RowKit
set_option linter.unusedSimpArgs false
set_option linter.unusedVariables false

/-- What holds at the head of a round that lays waiting writes. -/
structure RLay (w1 wr : World) (b : Nat) (ow : Option Nat) (A : ADisk) (s : Nat → ByteArray) (v : Value) : Prop where
  lies : ∃ f, Raw wr b 64 3125 f ∧ RefIs wr f ow { A with safe := s } ∧ f 3120 = v
  turn : Turn (· = b) w1 wr
theorem RLay.new {w1 wr w2 : World} {b : Nat} {ow : Option Nat} {A : ADisk} {s : Nat → ByteArray} {v : Value} (h : RLay w1 wr b ow A s v) (hn : New wr w2) : RLay w1 w2 b ow A s v := by
  obtain ⟨⟨f, h1, h2, h3⟩, h4⟩ := h
  exact ⟨⟨f, h1.turn (Turn.of_new (S := fun _ => False) hn) (fun h => h), h2.turn (Turn.of_new (S := fun _ => False) hn) (fun _ _ h => h), h3⟩, h4.trans (Turn.of_new hn)⟩
theorem RLay.next {w1 wr : World} {b : Nat} {ow : Option Nat} {A : ADisk} {s : Nat → ByteArray} {v : Value} (h : RLay w1 wr b ow A s v) {n : Nat} (hl : n < 3120) (t : ByteArray) :
    RLay w1 (wr.setCell ⟨b, n, none⟩ (.string t)) b ow A (lay1 s (n, t)) v := by
  obtain ⟨⟨f, h1, h2, h3⟩, h4⟩ := h
  exact ⟨⟨_, h1.set n _, h2.lay h1 hl t, by rw [upd_other _ _ (by omega)]; exact h3⟩, h4.trans (Turn.setCell (S := (· = b)) (p := ⟨b, n, none⟩) (Turn.refl _ wr) rfl _)⟩
/-- The row of waiting writes dropped. -/
theorem RLay.drop {w1 wr : World} {b : Nat} {ow : Option Nat} {A : ADisk} {s : Nat → ByteArray} {v : Value} (h : RLay w1 wr b ow A s v) :
    RefAt (wr.setCell ⟨b, 3120, none⟩ (.slice none 0 0)) b none { A with safe := s, waits := [] } ∧ Turn (its b ow) w1 (wr.setCell ⟨b, 3120, none⟩ (.slice none 0 0)) := by
  obtain ⟨⟨f, h1, h2, h3⟩, h4⟩ := h
  obtain ⟨a, b'⟩ := h2.relaid h1 (Turn.refl _ wr) (v := .slice none 0 0) (l := []) ⟨rfl, .inl ⟨rfl, rfl⟩⟩ (fun p hp => by cases hp)
  exact ⟨a, (h4.mono fun k _ h => .inl h).trans b'⟩

set_option maxHeartbeats 4000000 in
set_option maxRecDepth 100000 in
theorem refFlush_any (b : Nat) (ow : Option Nat) (A : ADisk) (w : World) (h : RefAt w b ow A) (hb : A.falls ≤ 1000000000) (hb2 : A.acts ≤ 1000000000) (hb3 : A.waits.length ≤ 1000000000) :
    Calls Tryz.prog 72 #[.pointer (some ⟨b, 0, none⟩)] w (RefMoved b ow (.int .i64 (actE A)) (flushA A) w) := by
  have H := hid h
  obtain ⟨f, hr, hd⟩ := h
  have c2 := hr.cell 3122 (by omega)
  rw [hd.down] at c2
  clear hr hd
  cases hdn : A.down with
  | true =>
    have h0 : actE A = 7 := by simp [actE, hdn]
    have e2 : flushA A = A := by simp [flushA, h0, actA, hdn]
    rw [h0, e2]
    rw [hdn] at c2
    go_enter Tryz.func72, Tryz.ntmps72
    go_wp2
    go_ret
    exact ⟨rfl, ow, H.out, fun k hk => .inl hk, Turn.refl _ _⟩
  | false =>
    rw [hdn] at c2
    by_cases ha : actE A = 0
    case neg =>
      have h7 : actE A = 7 := by
        simp only [actE, hdn] at ha ⊢
        split at ha <;> simp_all
      have e2 : flushA A = actA A := by simp [flushA, h7]
      rw [h7, e2]
      go_enter Tryz.func72, Tryz.ntmps72
      go_wp2_with fail
      refine (refAct_any b ow A w H.out hdn hb hb2).mono ?_
      rintro e w1 ⟨rfl, h1, ht1⟩
      rw [decide_eq_false ha]
      go_wp2
      go_ret
      exact ⟨rfl, ow, h1, fun k hk => .inl hk, ht1.mono fun k _ h => .inl h⟩
    have HA := hid ha
    go_enter Tryz.func72, Tryz.ntmps72
    go_wp2_with fail
    refine (refAct_any b ow A w H.out hdn hb hb2).mono ?_
    rintro e w1 ⟨rfl, hd1, ht1⟩
    rw [decide_eq_true ha]
    obtain ⟨f1, hr1, hi1⟩ := hd1
    have c1 := hr1.cell 3120 (by omega)
    obtain ⟨q, k, ew, _⟩ := ref_slice hi1
    have hlt := hr1.lt
    have hle : (actA A).waits.length ≤ 1000000000 := by rw [actA_waits]; exact hb3
    rw [ew] at c1
    have HS : Hid (RLay w1 w1 b ow (actA A) (layAll ((actA A).waits.take 0) (actA A).safe) (.slice q (actA A).waits.length k)) := hid ⟨⟨f1, hr1, hi1, ew⟩, Turn.refl _ _⟩
    have HT1 := hid ht1
    clear hr1 hi1 ew ht1 ha c2 hdn
    generalize hB : actA A = B at *
    have HB := hid hB
    clear hB
    go_wp2
    go_loopw [3] (fun i wr => ∃ j : Nat, j ≤ B.waits.length ∧ i = .int .i64 j ∧ Hid (RLay w1 wr b ow B (layAll (B.waits.take j) B.safe) (.slice q B.waits.length k))) (fun i _ => B.waits.length - (intOf i).toNat)
    case atStart => exact ⟨0, Nat.zero_le _, rfl, HS⟩
    case round =>
      obtain ⟨j, hj, rfl, hL⟩ := hrel
      clear HS
      obtain ⟨⟨f2, hr2, hi2, e2⟩, ht2⟩ := hL.out
      have cw := hr2.cell 3120 (by omega)
      rw [e2] at cw
      have hbl := hr2.lt
      by_cases hlt : j < B.waits.length
      · obtain ⟨_, g, rfl, hg, d0, d1⟩ := hi2.at e2 hlt
        have hin := hi2.inside _ (List.getElem_mem hlt)
        simp only at d0 d1 hin
        have cb := hr2.cell B.waits[j].1 (by omega)
        have zb := hr2.frozen B.waits[j].1
        rw [hi2.safe _ hin] at cb
        have HN := hid ((hL.out.next hin B.waits[j].2).new (New.refl _).drew)
        have HTK := hid (layAll_take hlt B.safe)
        clear hr2 hi2 e2 hL ht2
        generalize hx : B.waits[j] = x at *
        clear hx
        go_wp2
        go_region
        all_goals
          go_wp2
          go_roundw
          case rel =>
            refine ⟨j + 1, by omega, by go_num, hid ?_⟩
            rw [HTK.out]
            exact HN.out
          case measure => simp [intOf]; omega
      · have : j = B.waits.length := by omega
        subst this
        have z2 := hr2.frozen 3120
        clear hr2 hi2 ht2 e2
        go_wp2
        go_ret
        obtain ⟨hd2, ht3⟩ := hL.out.drop
        rw [List.take_length, ← HB.out, actA_safe, actA_waits] at hd2
        refine ⟨by rw [HA.out]; rfl, none, ?_, fun k h => (by cases h), (HT1.out.mono fun k _ h => .inl h).trans ht3⟩
        simp only [flushA, HA.out, if_true]
        exact hd2

end Go.Proofs.YtdccbceaajnajaaGreat

namespace Go.Proofs.YtdccbceaajnajaaGreat
open Go.RowKit
set_option linter.unusedSimpArgs false
set_option linter.unusedVariables false

abbrev both (b : Nat) (ow : Option Nat) (c : Nat) (oc : Option Nat) (k : Nat) : Prop := its b ow k ∨ its c oc k
structure Pair (w a : World) (b : Nat) (ow : Option Nat) (A : ADisk) (c : Nat) (oc : Option Nat) (R : ADisk) : Prop where
  new : New w a
  disk : DiskAt a b ow A
  ref : RefAt a c oc R
  old : ∀ k, both b ow c oc k → w.heap.size ≤ k
/-- Only blocks of X have turned; those of Y are among them, or new. -/
structure Step (a a' : World) (X Y : Nat → Prop) : Prop where
  turn : Turn X a a'
  fresh : ∀ k, Y k → X k ∨ a.heap.size ≤ k
theorem Step.trans {a a1 a2 : World} {X Y Z : Nat → Prop} (h : Step a a1 X Y) (k : Step a1 a2 Y Z) : Step a a2 X Z := by
  refine ⟨⟨k.turn.os.trans h.turn.os, k.turn.tape.trans h.turn.tape, k.turn.output.trans h.turn.output, Nat.le_trans h.turn.size k.turn.size, fun i hi hx => ?_⟩, fun i hz => ?_⟩
  · rw [k.turn.block i (Nat.lt_of_lt_of_le hi h.turn.size) (fun hy => by
      rcases h.fresh i hy with h' | h'
      · exact hx h'
      · omega)]
    exact h.turn.block i hi hx
  · rcases k.fresh i hz with h' | h'
    · exact h.fresh i h'
    · right; exact Nat.le_trans h.turn.size h'
theorem Step.of_new {a a' : World} {X : Nat → Prop} (h : New a a') : Step a a' X X := ⟨Turn.of_new h, fun _ h => .inl h⟩
theorem Step.refl (a : World) (X : Nat → Prop) : Step a a X X := ⟨Turn.refl _ _, fun _ h => .inl h⟩
theorem Pair.newer {w a a' : World} {b : Nat} {ow : Option Nat} {A : ADisk} {c : Nat} {oc : Option Nat} {R : ADisk} (h : Pair w a b ow A c oc R) (hn : New a a') : Pair w a' b ow A c oc R := ⟨h.new.trans hn, h.disk.new hn, h.ref.new hn, h.old⟩
theorem types_ne {w : World} {k : Nat} {c d : Array Value} {fr fr' : Nat × Nat} {s t : TypeId} (h1 : w.heap[k]? = some (.cells c s fr)) (h2 : w.heap[k]? = some (.cells d t fr')) (hst : s ≠ t) : False := by
  rw [h1] at h2
  injection h2 with h2
  injection h2 with _ e _
  exact hst e
theorem disk_off_ref {a : World} {b : Nat} {ow : Option Nat} {A : ADisk} {c : Nat} {oc : Option Nat} {R : ADisk} (h : DiskAt a b ow A) (g : RefAt a c oc R) {k : Nat} (hk : its b ow k) : ¬ its c oc k := by
  intro hk2
  obtain ⟨x, t, e, ht⟩ := h.typed hk
  obtain ⟨y, s, e2, hs⟩ := g.typed hk2
  refine types_ne e e2 (fun e => ?_)
  rcases ht with h | h <;> rcases hs with h' | h' <;> subst h <;> subst h' <;> cases e
theorem RefAt.apart {w : World} {b : Nat} {ow : Option Nat} {A : ADisk} (h : RefAt w b ow A) : Apart (its b ow) w := by
  intro k c fr hk e
  obtain ⟨c', t, e', ht⟩ := h.typed hk
  rw [e] at e'
  injection e' with e'
  injection e' with _ e2 _
  rcases ht with rfl | rfl <;> cases e2
theorem New.by {S : Nat → Prop} {w a a' : World} (h : New w a) (ht : Turn S a a') (hS : ∀ k, S k → w.heap.size ≤ k) : New w a' := h.turn ht (fun k hk hs => by have := hS k hs; omega)
theorem Pair.disk_moved {w a a' : World} {b : Nat} {ow : Option Nat} {A A' : ADisk} {c : Nat} {oc : Option Nat} {R : ADisk} {v : Value} {e : Ending} (h : Pair w a b ow A c oc R) (hm : DiskMoved b ow v A' a e a') :
    ∃ ow', e = .returned v ∧ Pair w a' b ow' A' c oc R ∧ Step a a' (both b ow c oc) (both b ow' c oc) := by
  obtain ⟨he, ow', h1, h2, h3⟩ := hm
  have hn : New w a' := h.new.by h3 (fun k hk => h.old k (.inl hk))
  have hfr : ∀ k, both b ow' c oc k → both b ow c oc k ∨ a.heap.size ≤ k := by
    intro k hk
    rcases hk with (rfl | hk) | hk
    · exact .inl (.inl (.inl rfl))
    · rcases h2 k hk with h4 | h4
      · exact .inl (.inl (.inr h4))
      · exact .inr h4
    · exact .inl (.inr hk)
  refine ⟨ow', he, ⟨hn, h1, h.ref.turn h3 (fun hk => disk_off_ref h.disk h.ref hk (.inl rfl)) (fun k hk hs => disk_off_ref h.disk h.ref hs (.inr hk)), fun k hk => ?_⟩, h3.mono fun k _ hk => .inl hk, hfr⟩
  rcases hfr k hk with h4 | h4
  · exact h.old k h4
  · exact Nat.le_trans h.new.size h4
theorem Pair.ref_moved {w a a' : World} {b : Nat} {ow : Option Nat} {A : ADisk} {c : Nat} {oc : Option Nat} {R R' : ADisk} {v : Value} {e : Ending} (h : Pair w a b ow A c oc R) (hm : RefMoved c oc v R' a e a') :
    ∃ oc', e = .returned v ∧ Pair w a' b ow A c oc' R' ∧ Step a a' (both b ow c oc) (both b ow c oc') := by
  obtain ⟨he, oc', h1, h2, h3⟩ := hm
  have hn : New w a' := h.new.by h3 (fun k hk => h.old k (.inr hk))
  have hfr : ∀ k, both b ow c oc' k → both b ow c oc k ∨ a.heap.size ≤ k := by
    intro k hk
    rcases hk with hk | (rfl | hk)
    · exact .inl (.inl hk)
    · exact .inl (.inr (.inl rfl))
    · rcases h2 k hk with h4 | h4
      · exact .inl (.inr (.inr h4))
      · exact .inr h4
  refine ⟨oc', he, ⟨hn, h.disk.turn h3 h.ref.apart (fun hk => disk_off_ref h.disk h.ref (.inl rfl) hk) (fun k hk hs => disk_off_ref h.disk h.ref (.inr hk) hs), h1, fun k hk => ?_⟩, h3.mono fun k _ hk => .inr hk, hfr⟩
  rcases hfr k hk with h4 | h4
  · exact h.old k h4
  · exact Nat.le_trans h.new.size h4
theorem DiskBack.moved {b : Nat} {ow : Option Nat} {v : Value} {A : ADisk} {w w' : World} {e : Ending} (h : DiskBack b ow v A w e w') : DiskMoved b ow v A w e w' :=
  ⟨h.1, ow, h.2.1, fun k hk => .inl hk, h.2.2.mono fun k _ h => .inl h⟩
/-- Another pair, of whose blocks none has turned. -/
theorem Pair.beside {w a a' : World} {X Y : Nat → Prop} {b : Nat} {ow : Option Nat} {A : ADisk} {c : Nat} {oc : Option Nat} {R : ADisk} (h : Pair w a b ow A c oc R) (hs : Step a a' X Y) (hn : New w a') (hX : Apart X a) (hoff : ∀ k, X k → ¬ both b ow c oc k) :
    Pair w a' b ow A c oc R ∧ ∀ k, Y k → ¬ both b ow c oc k := by
  refine ⟨⟨hn, h.disk.turn hs.turn hX (fun hk => hoff b hk (.inl (.inl rfl))) (fun k hk hs => hoff k hs (.inl (.inr hk))), h.ref.turn hs.turn (fun hk => hoff c hk (.inr (.inl rfl))) (fun k hk hs => hoff k hs (.inr (.inr hk))), h.old⟩, fun k hy hb => ?_⟩
  rcases hs.fresh k hy with h1 | h1
  · exact hoff k h1 hb
  · have : k < a.heap.size := by
      rcases hb with h2 | h2
      · exact h.disk.its_lt h2
      · exact h.ref.its_lt h2
    omega
theorem Pair.apart {w a : World} {b : Nat} {ow : Option Nat} {A : ADisk} {c : Nat} {oc : Option Nat} {R : ADisk} (h : Pair w a b ow A c oc R) : Apart (both b ow c oc) a := by
  intro k x fr hk e
  rcases hk with hk | hk
  · exact h.disk.apart k x fr hk e
  · exact h.ref.apart k x fr hk e

/-! In plain words. -/
structure Like (A R : ADisk) : Prop where
  safe : R.safe = A.safe
  waits : R.waits = A.waits
  down : R.down = A.down
  acts : R.acts = A.acts
  falls : R.falls = A.falls
  armed : A.down = false → R.armed = A.armed
theorem Like.refl (A : ADisk) : Like A A := ⟨rfl, rfl, rfl, rfl, rfl, fun _ => rfl⟩
theorem Like.up {A R : ADisk} (h : Like A R) (hd : A.down = false) : R = A := by
  obtain ⟨h1, h2, h3, h4, h5, h6⟩ := h
  have h6 := h6 hd
  cases A; cases R
  simp_all
theorem act_down {A : ADisk} (h : A.down = true) : actE A = 7 ∧ actA A = A := by simp [actE, actA, h]
theorem Like.write {A R : ADisk} (h : Like A R) (n : Int) (s : ByteArray) : writeE R n s = writeE A n s ∧ Like (writeA A n s) (writeA R n s) := by
  cases hd : A.down with
  | false => rw [h.up hd]; exact ⟨rfl, Like.refl _⟩
  | true =>
    obtain ⟨a1, a2⟩ := act_down hd
    obtain ⟨r1, r2⟩ := act_down (h.down.trans hd)
    refine ⟨by simp only [writeE, a1, r1], ?_⟩
    simp only [writeA, a1, a2, r1, r2]
    split
    · exact h
    · exact h
theorem Like.flush {A R : ADisk} (h : Like A R) : actE R = actE A ∧ Like (flushA A) (flushA R) := by
  cases hd : A.down with
  | false => rw [h.up hd]; exact ⟨rfl, Like.refl _⟩
  | true =>
    obtain ⟨a1, a2⟩ := act_down hd
    obtain ⟨r1, r2⟩ := act_down (h.down.trans hd)
    refine ⟨by rw [a1, r1], ?_⟩
    simp only [flushA, a1, a2, r1, r2]
    exact h
theorem Like.arm {A R : ADisk} (h : Like A R) (x : Int) : Like { A with armed := x } { R with armed := x } := ⟨h.safe, h.waits, h.down, h.acts, h.falls, fun _ => rfl⟩
theorem Like.start {A R : ADisk} (h : Like A R) : Like { A with down := false, armed := 0 } { R with down := false, armed := 0 } := ⟨h.safe, h.waits, rfl, h.acts, h.falls, fun _ => rfl⟩
theorem Like.lim {A R : ADisk} {n : Nat} (h : Like A R) (hl : Lim A n) : Lim R n := ⟨by rw [h.acts]; exact hl.acts, by rw [h.falls]; exact hl.falls, by rw [h.waits]; exact hl.waits, ⟨by rw [h.safe]; exact hl.small.1, by rw [h.waits]; exact hl.small.2⟩, by rw [h.waits]; exact hl.inside⟩
theorem Like.read {A R : ADisk} (h : Like A R) (n : Int) : readE R n = readE A n ∧ readB R n = readB A n := by
  have e : readE R n = readE A n := by simp only [readE, h.down]
  exact ⟨e, by simp only [readB, e, h.safe, h.waits]⟩
end Go.Proofs.YtdccbceaajnajaaGreat
