/- The specification's disk: Lose, Copy. -/
import Derived.Test.YtbclgklpcbajfaaD33
import Derived.Deep.Onto
import Derived.Laws.Tables
import Derived.Laws.Rows
import Derived.Deep.WholeRow
namespace Go.Proofs.Ytbclgklpcbajfaa
open Go.RowKit
set_option linter.unusedSimpArgs false
set_option linter.unusedVariables false

/-- The writes that are not to block m. -/
def others (m : Nat) (l : List (Nat × ByteArray)) : List (Nat × ByteArray) := l.filter fun p => decide (p.1 ≠ m)
theorem others_len (m : Nat) (l : List (Nat × ByteArray)) : (others m l).length ≤ l.length := List.length_filter_le _ _
theorem others_mem {m : Nat} {l : List (Nat × ByteArray)} {p : Nat × ByteArray} (h : p ∈ others m l) : p ∈ l := (List.mem_filter.1 h).1
theorem others_yes {m : Nat} {l : List (Nat × ByteArray)} {p : Nat × ByteArray} (h : p.1 ≠ m) : others m (l ++ [p]) = others m l ++ [p] := by simp [others, List.filter_append, h]
theorem others_no {m : Nat} {l : List (Nat × ByteArray)} {p : Nat × ByteArray} (h : p.1 = m) : others m (l ++ [p]) = others m l := by simp [others, List.filter_append, h]
def loseE (n : Int) : Int := if isB n then 0 else 2
def loseA (A : ADisk) (n : Int) : ADisk := if isB n then { A with safe := lay1 A.safe (n.toNat, ByteArray.empty), waits := others n.toNat A.waits } else A

set_option maxRecDepth 10000 in
/-- append(row, l...): waiting writes with texts. -/
theorem app_waitTexts {ops : Array Oper} {rest : List Oper} {o : Oper} {a : Act} {w : World} {Q : Exit → Act → World → Prop} (hgd : o.guard = none) (sl x : Operand)
    (ho : o.op = .call { callee := .builtin .append, args := #[sl, x], argTypes := #[54, 54] }) (base : Nat)
    (v : Value) (n : Nat) (xs : List Value) (hs : a.eval sl = v) (hown : w.ownsRow base 143 2 v n xs) (q : Addr) (m c : Nat) (news : List Value) (hx : a.eval x = .slice (some q) m c) (hl : news.length = m * 2)
    (hn : ∀ j u, news[j]? = some u → w.cell? (q.add j) = some u) (h1 : ∀ u ∈ news, u.oneCell' = true)
    (hb : n + m ≤ 1000000000) (hbase : base ≤ w.heap.size)
    (h : ∀ v' w', w'.ownsRow base 143 2 v' (n + m) (xs ++ news) → w.grownBy w' v.ownBlock → (v'.ownBlock = v.ownBlock ∨ v'.ownBlock = some w.heap.size) → wpList Try.prog ops Q rest (a.put o.dst v') w') : wpList Try.prog ops Q (o :: rest) a w := by
  obtain ⟨i0, hi, hz0, hz1, hz2⟩ := info_parts info143
  exact wpList_append_own_at w hgd sl x 54 ho base 143 i0 _ 2 24 Try.underlying54 hi hz0 hz1 hz2 rfl (by decide) v n xs hs hown q m c news hx hl hn h1 (by unfold maxLen; omega) (by omega) hbase fun v' w' h1 h2 _ h4 => h v' w' h1 h2 h4
theorem waitVals_one (l : List (Nat × ByteArray)) : ∀ u ∈ waitVals l, u.oneCell' = true := by
  intro u hu
  simp only [waitVals, List.mem_flatMap] at hu
  obtain ⟨p, _, hp⟩ := hu
  simp at hp
  rcases hp with rfl | rfl <;> rfl
theorem app_none_run2 {w : World} {base : Nat} {v : Value} {n : Nat} {xs : List Value} (hown : w.ownsRow base 143 2 v n xs) (ty : TypeId) (c : Nat) :
    (Builtin.append_ #[54, 54] ty #[v, .slice none 0 c]).run Try.prog w = .ok v w := by
  obtain ⟨i0, hi, _, hz1, _⟩ := info_parts info143
  have hu := run_underlying (P := Try.prog) Try.underlying54
  obtain ⟨A, k, rfl⟩ : ∃ A k, v = .slice A n k := by
    rcases hown.2 with ⟨rfl, rfl⟩ | ⟨g, cap, cur, rfl, _⟩
    · exact ⟨_, _, rfl⟩
    · exact ⟨_, _, rfl⟩
  have hk : n ≤ k ∧ (A = none → n = 0 ∧ k = 0) := by
    rcases hown.2 with ⟨e, rfl⟩ | ⟨g, cap, cur, e, _, _, h, _⟩
    · injection e with e1 _ e3; exact ⟨Nat.zero_le _, fun _ => ⟨rfl, e3⟩⟩
    · injection e with e1 _ e3; exact ⟨by omega, fun h' => by rw [h'] at e1; cases e1⟩
  cases A with
  | none => obtain ⟨rfl, rfl⟩ := hk.2 rfl; simp [Builtin.append_, hu, sizeOf, typeInfo, hi, Builtin.lenOf, Builtin.firstCells]
  | some q => simp [Builtin.append_, hu, sizeOf, typeInfo, hi, Builtin.lenOf, Builtin.firstCells, hk.1, storeCells]

/-- What holds at the head of a round that keeps some of the waiting writes. -/
structure RLosing (w wr : World) (b : Nat) (ow : Option Nat) (A : ADisk) (s : Nat → ByteArray) (v : Value) (u : Value) (l : List (Nat × ByteArray)) : Prop where
  lies : ∃ f, Raw wr b 56 3125 f ∧ RefIs wr f ow { A with safe := s } ∧ f 3120 = v
  turn : Turn (· = b) w wr
  row : wr.ownsRow w.heap.size 143 2 u l.length (waitVals l)
theorem RLosing.lt {w wr : World} {b : Nat} {ow : Option Nat} {A : ADisk} {s : Nat → ByteArray} {v u : Value} {l : List (Nat × ByteArray)} (h : RLosing w wr b ow A s v u l) (hb : b < w.heap.size) (ho : ∀ k, ow = some k → k < w.heap.size)
    {wx w2 : World} (hn : New wr wx) {u' : Value} {n : Nat} {l' : List (Nat × ByteArray)} (hown : w2.ownsRow w.heap.size 143 2 u' n (waitVals l')) (hln : n = l'.length) (hg : wx.grownBy w2 u.ownBlock) : RLosing w w2 b ow A s v u' l' := by
  subst hln
  have ht : Turn (fun k => u.ownBlock = some k) wr w2 := (Turn.of_new hn).grown hg (fun k _ h => h)
  have hge : ∀ k, u.ownBlock = some k → w.heap.size ≤ k := fun k hk => (h.row.lt k hk).1
  obtain ⟨⟨f, h1, h2, h3⟩, h4, _⟩ := h
  refine ⟨⟨f, h1.turn ht (fun hk => by have := hge b hk; omega), h2.turn ht (fun k hk hs => by have := hge k hs; have := ho k hk; omega), h3⟩, ?_, hown⟩
  exact ⟨ht.os.trans h4.os, ht.tape.trans h4.tape, ht.output.trans h4.output, Nat.le_trans h4.size ht.size, fun k hk hs => (ht.block k (Nat.lt_of_lt_of_le hk h4.size) (fun e => by have := hge k e; omega)).trans (h4.block k hk hs)⟩

set_option maxHeartbeats 4000000 in
set_option maxRecDepth 100000 in
theorem refLose_any (b : Nat) (ow : Option Nat) (A : ADisk) (n : Int) (w : World) (h : RefAt w b ow A) (hb3 : A.waits.length ≤ 100000000) :
    Calls Try.prog 75 #[.pointer (some ⟨b, 0, none⟩), .int .i64 n] w (RefMoved b ow (.int .i64 (loseE n)) (loseA A n) w) := by
  have H := hid h
  cases hn : isB n with
  | false =>
    have e1 : loseE n = 2 := by simp [loseE, hn]
    have e2 : loseA A n = A := by simp [loseA, hn]
    rw [e1, e2]
    go_enter Try.func75, Try.ntmps75
    go_wp2_with fail
    refine (refIsBlock_any n w).mono ?_
    rintro e w' ⟨rfl, rfl⟩
    rw [hn]
    go_wp2
    go_ret
    exact ⟨rfl, ow, H.out, fun k hk => .inl hk, Turn.refl _ _⟩
  | true =>
    obtain ⟨m, rfl⟩ : ∃ m : Nat, n = m := ⟨n.toNat, by unfold isB at hn; simp at hn; omega⟩
    have hm : m < 3120 := isB_lt hn
    have e1 : loseE m = 0 := by simp [loseE, hn]
    have e2 : loseA A m = { A with safe := lay1 A.safe (m, ByteArray.empty), waits := others m A.waits } := by simp [loseA, hn]
    rw [e1, e2]
    have hol : ∀ k, ow = some k → k < w.heap.size := fun k hk => H.out.its_lt (.inr hk)
    have HOL := hid hol
    obtain ⟨f, hr, hd⟩ := h
    have c1 := hr.cell 3120 (by omega)
    have cm := hr.cell m (by omega)
    have zm := hr.frozen m
    rw [hd.safe m hm] at cm
    obtain ⟨q, k, ew, _⟩ := ref_slice hd
    rw [ew] at c1
    have hlt := hr.lt
    have HW1 : Hid (RLosing w (w.setCell ⟨b, m, none⟩ (.string ByteArray.empty)) b ow A (lay1 A.safe (m, ByteArray.empty)) (.slice q A.waits.length k) (.slice none 0 0) (others m (A.waits.take 0))) :=
      hid ⟨⟨_, hr.set m _, hd.lay hr hm _, by rw [upd_other _ _ (by omega)]; exact ew⟩, Turn.setCell (S := (· = b)) (p := ⟨b, m, none⟩) (Turn.refl _ w) rfl _, ⟨rfl, .inl ⟨rfl, rfl⟩⟩⟩
    clear hr hd ew hol e1 e2
    go_enter Try.func75, Try.ntmps75
    go_wp2_with fail
    refine (refIsBlock_any m w).mono ?_
    rintro e w' ⟨rfl, rfl⟩
    rw [hn]
    go_wp2
    go_loopw [5, 6] (fun s i wr => ∃ (j : Nat) (p : Option Addr) (c : Nat), j ≤ A.waits.length ∧ i = .int .i64 j ∧ s = .slice p (others m (A.waits.take j)).length c ∧ Hid (RLosing w wr b ow A (lay1 A.safe (m, ByteArray.empty)) (.slice q A.waits.length k) s (others m (A.waits.take j)))) (fun _ i _ => A.waits.length - (intOf i).toNat)
    case atStart => exact ⟨0, none, 0, Nat.zero_le _, rfl, rfl, HW1⟩
    case round =>
      clear HW1 c1 cm zm
      obtain ⟨j, p, c, hj, rfl, rfl, hL⟩ := hrel
      obtain ⟨⟨f2, hr2, hi2, e2⟩, ht2, _⟩ := hL.out
      have cw := hr2.cell 3120 (by omega)
      rw [e2] at cw
      have hbl := hr2.lt
      by_cases hlt2 : j < A.waits.length
      · obtain ⟨_, g, rfl, hg, d0, d1⟩ := hi2.at e2 hlt2
        simp only at d0 d1
        have e : A.waits.take (j + 1) = A.waits.take j ++ [A.waits[j]] := (List.take_append_getElem hlt2).symm
        have hfl : (others m (A.waits.take j)).length ≤ 100000000 := by
          have := others_len m (A.waits.take j)
          rw [List.length_take] at this
          omega
        clear hr2 hi2 e2 ht2
        by_cases e3 : A.waits[j].1 = m
        · have t3 : ((A.waits[j].1 : Int) == (m : Int)) = true := by simp [e3]
          have NX : Hid (others m (A.waits.take (j + 1)) = others m (A.waits.take j)) := hid (by rw [e, others_no e3])
          clear e
          generalize hx : A.waits[j] = x at *
          clear hx
          go_wp2
          go_roundw
          case rel =>
            refine ⟨j + 1, p, c, by omega, by go_num, ?_, ?_⟩
            · rw [NX.out]
            · rw [NX.out]; exact hL
          case measure => simp [intOf]; omega
        · have t3 : ((A.waits[j].1 : Int) == (m : Int)) = false := by simp; omega
          have NX : Hid (others m (A.waits.take (j + 1)) = (others m (A.waits.take j)) ++ [A.waits[j]]) := hid (by rw [e, others_yes e3])
          have E3 := hid e3
          clear e e3
          generalize hx : A.waits[j] = x at *
          clear hx
          generalize hfx : others m (A.waits.take j) = F at *
          clear hfx
          go_wp2_with (at_builtin; refine app_waitTexts rfl _ _ rfl w.heap.size _ _ _ rfl (own_old hL.out.row ((New.refl wr).alloc #[.int .i64 x.1, .string x.2] 143)) ⟨wr.heap.size, 0, none⟩ 1 1 [.int .i64 x.1, .string x.2] rfl rfl ?c0 ?c1 (by omega) ?c2 ?_)
          case c1 =>
            exact ⟨rfl, rfl⟩
          case c2 => exact Nat.le_trans hL.out.turn.size (by simp)
          intro v4 w4 hown hg4 hblk
          have HL4 := hid (hL.out.lt hlt HOL.out ((New.refl wr).alloc #[.int .i64 x.1, .string x.2] 143) (l' := F ++ [x]) (by rw [waitVals_snoc]; exact hown) (by simp) hg4)
          obtain ⟨g4, c4, rfl, _, _⟩ := hown.form (by omega)
          clear hown hg4 hblk hL
          go_wp2
          go_roundw
          case rel =>
            refine ⟨j + 1, some ⟨g4, 0, none⟩, c4, by omega, by go_num, ?_, ?_⟩
            · rw [NX.out]; simp
            · rw [NX.out]; exact HL4
          case measure => simp [intOf]; omega
      · obtain rfl : j = A.waits.length := by omega
        have z2 := hr2.frozen 3120
        rw [List.take_length] at hL
        rw [List.take_length]
        have hrow := hL.out.row
        have hfin := hid (hi2.relaid hr2 (Turn.refl _ wr) (v := .slice p (others m A.waits).length c) (hrow.mono (Nat.zero_le _)) (fun p hp => hi2.inside p ((others_mem hp))))
        have HROW := hid hrow
        have HT2 := hid ht2
        clear hr2 hi2 ht2 e2 hrow hL
        go_wp2
        go_ret
        refine ⟨rfl, _, hfin.out.1, fun k' hk' => .inr ?_, (HT2.out.mono fun k _ h => .inl h).trans hfin.out.2⟩
        exact (HROW.out.lt k' hk').1

theorem size56 : (Try.prog.info? 56).map (·.size) = some 3125 := by kernel_rfl
theorem zeros56 : Try.zeroCells56.size = 3125 := by kernel_rfl
theorem RefIs.one {w : World} {f : Nat → Value} {ow : Option Nat} {A : ADisk} (h : RefIs w f ow A) (i : Nat) (hi : i < 3125) : (f i).oneCell' = true := by
  rcases Nat.lt_or_ge i 3120 with h2 | h2
  · rw [h.safe i h2]; rfl
  rcases Nat.lt_or_ge i 3121 with h3 | h3
  · obtain ⟨p, c, e, _⟩ := ref_slice h
    rw [show i = 3120 by omega, e]; rfl
  rcases Nat.lt_or_ge i 3122 with h4 | h4
  · rw [show i = 3121 by omega, h.armed]; rfl
  rcases Nat.lt_or_ge i 3123 with h5 | h5
  · rw [show i = 3122 by omega, h.down]; rfl
  rcases Nat.lt_or_ge i 3124 with h6 | h6
  · rw [show i = 3123 by omega, h.acts]; rfl
  · rw [show i = 3124 by omega, h.falls]; rfl

/-- append(row, l...): for any row of waiting writes with texts, nil too. -/
theorem app_waitAll {ops : Array Oper} {rest : List Oper} {o : Oper} {a : Act} {w : World} {Q : Exit → Act → World → Prop} (hgd : o.guard = none) (sl x : Operand)
    (ho : o.op = .call { callee := .builtin .append, args := #[sl, x], argTypes := #[54, 54] }) (base : Nat)
    (v : Value) (n : Nat) (xs : List Value) (hs : a.eval sl = v) (hown : w.ownsRow base 143 2 v n xs) (p : Option Addr) (c : Nat) (l : List (Nat × ByteArray)) (hx : a.eval x = .slice p l.length c) (hu : w.ownsRow 0 143 2 (.slice p l.length c) l.length (waitVals l))
    (hb : n + l.length ≤ 1000000000) (hbase : base ≤ w.heap.size)
    (h : ∀ v' w', w'.ownsRow base 143 2 v' (n + l.length) (xs ++ waitVals l) → w.grownBy w' v.ownBlock → (v'.ownBlock = v.ownBlock ∨ v'.ownBlock = some w.heap.size) → wpList Try.prog ops Q rest (a.put o.dst v') w') : wpList Try.prog ops Q (o :: rest) a w := by
  rcases id hu.2 with ⟨e, h0⟩ | ⟨g, cap, cur, e, _⟩
  · injection e with e1 e2 e3
    subst e1 e3
    have he : l = [] := List.eq_nil_of_length_eq_zero h0
    subst he
    have h' := h v w (by simpa [waitVals] using hown) (World.grownBy.refl w _) (.inl rfl)
    exact Lib.wpList_append_run w hgd sl x 54 54 ho v _ hs hx v w (app_none_run2 hown _ 0) h'
  · injection e with e1 e2 e3
    subst e1 e3
    exact app_waitTexts hgd sl x ho base v n xs hs hown ⟨g, 0, none⟩ l.length c (waitVals l) hx (waitVals_length l) (World.ownsRow.cells hu rfl) (waitVals_one l) hb hbase h

/-- A new disk that has the same. -/
def RefCopy (A : ADisk) (w : World) (e : Ending) (w' : World) : Prop := ∃ b' ow', e = .returned (.pointer (some ⟨b', 0, none⟩)) ∧ RefAt w' b' ow' A ∧ New w w' ∧ w.heap.size ≤ b' ∧ ∀ k, ow' = some k → w.heap.size ≤ k

set_option maxHeartbeats 2000000 in
set_option maxRecDepth 100000 in
theorem refCopy_any (b : Nat) (ow : Option Nat) (A : ADisk) (w : World) (h : RefAt w b ow A) (hb3 : A.waits.length ≤ 100000000) : Calls Try.prog 76 #[.pointer (some ⟨b, 0, none⟩)] w (RefCopy A w) := by
  obtain ⟨f, ⟨cs, hg, hsz, hcs⟩, hd⟩ := h
  have hr : Raw w b 56 3125 f := ⟨cs, hg, hsz, hcs⟩
  have c1 := hr.cell 3120 (by omega)
  obtain ⟨q, k, ew, _⟩ := ref_slice hd
  rw [ew] at c1
  have hlt := hr.lt
  have h1 : cs.all (·.oneCell') = true := by
    rw [Array.all_eq_true]
    intro i hi
    have e := hcs i (by omega)
    rw [Array.getElem?_eq_getElem hi] at e
    injection e with e
    rw [e]; exact hd.one i (by omega)
  have HG := hid hg
  have HR := hid hr
  have HD := hid hd
  have H1 := hid h1
  have HS := hid (show (Try.prog.info? 56).map (·.size) = some cs.size by rw [hsz]; exact size56)
  have HZ := hid (show Try.zeroCells56.size = cs.size by rw [hsz]; exact zeros56)
  have hown := hd.own
  rw [ew] at hown
  have HOWN := hid hown
  have HB := hid hb3
  have HSZ := hid hsz
  have HCS := hid hcs
  have HLO : Hid (∀ k, ow = some k → ¬ k = w.heap.size) := fun k hk => by
    have := (hd.own.lt k (by rw [hd.blk]; exact hk)).2
    omega
  clear hg hr hd h1 hsz hcs ew hb3 hown
  have hn1 : New w (w.alloc (.cells cs 56)) := (New.refl w).alloc _ _
  have HN1 := hid hn1
  have hlit : ((w.alloc (.cells cs 56)).alloc (.cells #[] 143)).ownsRow (w.heap.size + 1) 143 2 (.slice (some ⟨w.heap.size + 1, 0, none⟩) 0 0) 0 [] := by
    have := World.ownsRow_lit (base := w.heap.size + 1) (e := 143) (size := 2) (w.alloc (.cells cs 56)) #[] 0 (by rw [World.size_alloc]; exact Nat.le_refl _) (by decide) rfl
    rwa [World.size_alloc] at this
  have HLIT := hid hlit
  have hbs : w.heap.size + 1 ≤ ((w.alloc (.cells cs 56)).alloc (.cells #[] 143)).heap.size := by rw [World.size_alloc, World.size_alloc]; omega
  have HBS := hid hbs
  have HOW2 := hid (own_old HOWN.out (HN1.out.alloc #[] 143))
  have HLEN : Hid (0 + A.waits.length ≤ 1000000000) := hid (by have := HB.out; omega)
  clear hn1 hlit hbs
  go_enter Try.func76, Try.ntmps76
  go_wp2_with (first
    | (with_reducible refine wpList_load_row rfl 56 _ rfl b rfl 56 cs (0, 0) _ HG.out Try.underlying56 rfl HS.out ?_)
    | (with_reducible refine wpList_store_row rfl 56 _ _ rfl w.heap.size cs rfl rfl 56 Try.zeroCells56 (World.alloc_heap_new w _) HS.out HZ.out H1.out ?_; rw [World.setRow_alloc_new])
    | (at_builtin; refine app_waitAll rfl _ _ rfl (w.heap.size + 1) _ 0 [] rfl HLIT.out q k A.waits rfl HOW2.out HLEN.out HBS.out ?_))
  intro v3 w3 hown3 hg3 hblk
  have hn3 : New (w.alloc (.cells cs 56)) w3 := ((New.refl (w.alloc (.cells cs 56))).alloc #[] 143).grown hg3 (by simp) (fun k hk => by simp [Value.ownBlock] at hk; simp; omega)
  have hr1 : Raw (w.alloc (.cells cs 56)) w.heap.size 56 3125 f := ⟨cs, World.alloc_heap_new w _, HSZ.out, HCS.out⟩
  have hr3 : Raw w3 w.heap.size 56 3125 f := hr1.turn (Turn.of_new (S := fun _ => False) hn3) (fun h => h)
  have hi3 := HD.out.turn (Turn.of_new (S := fun _ => False) (HN1.out.trans hn3)) (fun _ _ h => h)
  have c3 := hr3.cell 3120 (by omega)
  have z3 := hr3.frozen 3120
  obtain ⟨p3, n3, k3, rfl⟩ := own_slice hown3
  have hfin := hid (hi3.relaid hr3 (Turn.refl _ w3) (hown3.mono (Nat.zero_le _)) hi3.inside)
  have HOWN3 := hid hown3
  have HN3 := hid (HN1.out.trans hn3)
  clear hr1 hr3 hi3 hown3 hg3 hblk hn3
  go_wp2
  go_ret
  refine ⟨w.heap.size, _, rfl, hfin.out.1, ?_, Nat.le_refl _, fun k' hk' => ?_⟩
  · exact HN3.out.turn (Turn.setCell (S := (· = w.heap.size)) (p := ⟨w.heap.size, 3120, none⟩) (Turn.refl _ w3) rfl _) (fun k hk hs => by omega)
  · have := (HOWN3.out.lt k' hk').1
    omega

end Go.Proofs.Ytbclgklpcbajfaa
