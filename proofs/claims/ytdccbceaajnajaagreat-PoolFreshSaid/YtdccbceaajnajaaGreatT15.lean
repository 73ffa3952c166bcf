/- A chain of appends beside calls that make bytes: what holds at each step, in whatever order they come. -/
import Derived.Test.YtdccbceaajnajaaGreatT13
import Derived.Test.YtdccbceaajnajaaGreatT14
import Derived.Deep.AppendLies
namespace Go.Proofs.YtdccbceaajnajaaGreat
open Go.RowKit
set_option linter.unusedSimpArgs false
set_option linter.unusedVariables false

/-- Blocks that are not bytes lie as they lay. -/
def Keep4 (w w' : World) : Prop := ∀ (k : Nat) (c : Array Value) (t : TypeId) (f : Nat × Nat), w.heap[k]? = some (Obj.cells c t f) → t ≠ 5 → w'.heap[k]? = some (Obj.cells c t f)
theorem Keep4.refl (w : World) : Keep4 w w := fun _ _ _ _ h _ => h
theorem Keep4.new {a w w' : World} (h : Keep4 a w) (hn : New w w') : Keep4 a w' := fun k c t f hk ht => by
  have := h k c t f hk ht
  rw [Below.block hn k (Array.getElem?_eq_some_iff.1 this).1]; exact this
theorem Keep4.trans {a b c : World} (h : Keep4 a b) (k : Keep4 b c) : Keep4 a c := fun i cs t f hk ht => k i cs t f (h i cs t f hk ht) ht

/-- A row of bytes of one's own. -/
def Own (base : Nat) (w : World) (p : Value × List UInt8) : Prop := w.ownsRow base 5 1 p.1 p.2.length (u8s p.2)
theorem Own.new {base : Nat} {w w' : World} {p : Value × List UInt8} (h : Own base w p) (hn : New w w') : Own base w' p := own_new h hn
theorem Own.grown {base : Nat} {w w' : World} {p : Value × List UInt8} {row : Option Nat} (h : Own base w p) (hg : w.grownBy w' row) (hr : ∀ k, p.1.ownBlock = some k → row ≠ some k) : Own base w' p := by
  refine ⟨h.1, ?_⟩
  rcases h.2 with h3 | ⟨g, cap, cur, e, hg', hh, r⟩
  · exact .inl h3
  · refine .inr ⟨g, cap, cur, e, hg', ?_, r⟩
    rw [hg.block g (Array.getElem?_eq_some_iff.1 hh).1 (fun e' => hr g (by rw [e]; rfl) e'.symm)]; exact hh

/-- In w lie a chain (v, S) and rows us, all of one's own and apart; what lay below 'base' in W lies as it lay, and so does what is no row of bytes in W0. -/
structure St (W W0 : World) (base : Nat) (w : World) (v : Value) (S : List UInt8) (us : List (Value × List UInt8)) : Prop where
  own : Own base w (v, S)
  rows : ∀ p ∈ us, Own base w p ∧ ∀ k, p.1.ownBlock = some k → v.ownBlock ≠ some k
  below : New W w
  hB : W.heap.size ≤ base
  hw : base ≤ w.heap.size
  keep : Keep4 W0 w
theorem St.new {W W0 w w' : World} {base : Nat} {v : Value} {S : List UInt8} {us : List (Value × List UInt8)} (h : St W W0 base w v S us) (hn : New w w') : St W W0 base w' v S us :=
  ⟨h.own.new hn, fun p hp => ⟨(h.rows p hp).1.new hn, (h.rows p hp).2⟩, h.below.trans hn, h.hB, Nat.le_trans h.hw hn.size, h.keep.new hn⟩
theorem St.drew {W W0 w : World} {base : Nat} {v : Value} {S : List UInt8} {us : List (Value × List UInt8)} (h : St W W0 base w v S us) : St W W0 base w.drew v S us := h.new (New.refl w).drew
theorem St.more {W W0 w : World} {base : Nat} {v : Value} {S : List UInt8} {us : List (Value × List UInt8)} (h : St W W0 base w v S us) {u : Value} {s : List UInt8} (hu : Own base w (u, s)) (ha : ∀ k, u.ownBlock = some k → v.ownBlock ≠ some k) : St W W0 base w v S ((u, s) :: us) :=
  ⟨h.own, fun p hp => by
    rcases List.mem_cons.1 hp with rfl | hp
    · exact ⟨hu, ha⟩
    · exact h.rows p hp, h.below, h.hB, h.hw, h.keep⟩
theorem Own.mono {b b' : Nat} {w : World} {p : Value × List UInt8} (h : Own b' w p) (hb : b ≤ b') : Own b w p := by
  refine ⟨h.1, ?_⟩
  rcases h.2 with h3 | ⟨g, cap, cur, e, hg', r⟩
  · exact .inl h3
  · exact .inr ⟨g, cap, cur, e, Nat.le_trans hb hg', r⟩
theorem St.call {W W0 w w' : World} {base : Nat} {v : Value} {S : List UInt8} {us : List (Value × List UInt8)} (h : St W W0 base w v S us) {u : Value} {s : List UInt8} (hu : w'.ownsRow w.heap.size 5 1 u s.length (u8s s)) (hn : New w w') : St W W0 base w' v S ((u, s) :: us) := by
  refine (h.new hn).more (Own.mono (b' := w.heap.size) hu h.hw) (fun k hk hv => ?_)
  have h1 := (hu.lt k hk).1
  have h2 := (h.own.lt k hv).2
  omega
theorem St.build {W W0 w : World} {base : Nat} {v : Value} {S : List UInt8} {us : List (Value × List UInt8)} (h : St W W0 base w v S us) (n : Int) (x : UInt8) (hx : (x.toNat : Int) = n) : St W W0 base (w.alloc (.cells #[.int .u8 n] 5)) v S ((.slice (some ⟨w.heap.size, 0, none⟩) 1 1, [x]) :: us) := by
  refine h.call (s := [x]) ?_ ((New.refl w).alloc _ _)
  have := World.ownsRow_lit (base := w.heap.size) (e := 5) (size := 1) w #[Value.int .u8 n] 1 (Nat.le_refl _) (by decide) rfl
  subst hx
  exact this

theorem St.appended {W W0 w w' : World} {base : Nat} {v : Value} {S : List UInt8} {us : List (Value × List UInt8)} (st : St W W0 base w v S us) {s : List UInt8} {g cap : Nat}
    (h1 : w'.ownsRow base 5 1 (.slice (some ⟨g, 0, none⟩) (S.length + s.length) cap) (S.length + s.length) (u8s S ++ u8s s)) (h2 : w.grownBy w' v.ownBlock) (h3 : v.ownBlock = some g ∨ g = w.heap.size) : St W W0 base w' (.slice (some ⟨g, 0, none⟩) (S.length + s.length) cap) (S ++ s) us := by
  have hgv : ∀ k, v.ownBlock = some k → base ≤ k ∧ k < w.heap.size := fun k hk => st.own.lt k hk
  have hgg : (∃ k, v.ownBlock = some k ∧ g = k) ∨ g = w.heap.size := by
    rcases h3 with h | h
    · exact .inl ⟨g, h, rfl⟩
    · exact .inr h
  refine ⟨?_, fun p hp => ?_, ?_, st.hB, Nat.le_trans st.hw h2.size, fun k c t f hk ht => ?_⟩
  · show w'.ownsRow base 5 1 _ (S ++ s).length (u8s (S ++ s))
    rw [List.length_append, u8s_append]; exact h1
  · obtain ⟨q1, q2⟩ := st.rows p hp
    refine ⟨q1.grown h2 (fun k hk => q2 k hk), fun k hk e => ?_⟩
    simp only [Value.ownBlock, Option.some.injEq] at e
    rcases hgg with ⟨k', hk', e'⟩ | e'
    · exact q2 k hk (by rw [hk', ← e', e])
    · have := (q1.lt k hk).2; omega
  · refine ⟨by rw [h2.os, st.below.os], by rw [h2.tape, st.below.tape], by rw [h2.output, st.below.output], Nat.le_trans st.below.size h2.size, fun k hk => ?_⟩
    rw [h2.block k (Nat.lt_of_lt_of_le hk st.below.size) (fun e => by have := (hgv k e.symm).1; have := st.hB; omega)]
    exact st.below.block k hk
  · have := st.keep k c t f hk ht
    rw [h2.block k (Array.getElem?_eq_some_iff.1 this).1 (fun e => own_ne5 (show w.ownsRow base 5 1 v S.length (u8s S) from st.own) this ht e.symm)]
    exact this
theorem Own.news {base : Nat} {w : World} {u : Value} {s : List UInt8} (r1 : Own base w (u, s)) (hpos : 0 < s.length) : ∃ g c, u = .slice (some ⟨g, 0, none⟩) s.length c ∧ ∀ j x, (u8s s)[j]? = some x → w.cell? ((⟨g, 0, none⟩ : Addr).add j) = some x := by
  rcases r1.2 with ⟨e, e0⟩ | ⟨g1, cap1, cur1, e1, hg1, hh1, hn1, hc1, hz, ht1⟩
  · exfalso; have : s.length = 0 := e0; omega
  · refine ⟨g1, cap1, e1, fun j u hj => ?_⟩
    have hjl : j < s.length := by
      have := (List.getElem?_eq_some_iff.1 hj).1
      rwa [u8s_length] at this
    simp only at ht1
    rw [← ht1, List.getElem?_take_of_lt (by omega)] at hj
    have e : (⟨g1, 0, none⟩ : Addr).add j = ⟨g1, j, none⟩ := by unfold Addr.add; split <;> simp_all
    rw [e]
    simp only [World.cell?, hh1]
    rw [← hj]; simp

/-- append(chain, row...) as a step of a region that draws. -/
theorem step_chain {ops : Array Oper} {o : Oper} {a : Act} {w : World} {K : Act → World → Prop} {Q : Exit → Act → World → Prop} {E : Prop} (hgd : o.guard = none) (sl x : Operand)
    (ho : o.op = .call { callee := .builtin .append, args := #[sl, x], argTypes := #[29, 29] }) {W W0 : World} {base : Nat} {v : Value} {S : List UInt8} {us : List (Value × List UInt8)} (st : St W W0 base w v S us)
    (hs : a.eval sl = v) (u : Value) (s : List UInt8) (hx : a.eval x = u) (hm : (u, s) ∈ us) (hpos : 0 < s.length) (hb : S.length + s.length ≤ 140737488355328)
    (h : ∀ v' w', St W W0 base w' v' (S ++ s) us → K (a.put o.dst v') w') :
    if Region.wanted o (yielded ops a.tmps) = true then Oper.wp Tryz.prog o a w K Q else E := by
  obtain ⟨i0, hi, hz0, hz1, hz2⟩ := info_parts info5
  obtain ⟨r1, r2⟩ := st.rows _ hm
  obtain ⟨g', cap', rfl, hn⟩ := r1.news hpos
  exact step_append_lies w hgd sl x 29 ho base 5 i0 _ 1 1 Tryz.underlying29 hi hz0 hz1 hz2 rfl (by decide) v S.length (u8s S) hs st.own ⟨g', 0, none⟩ s.length cap' (u8s s) hx (by rw [u8s_length]; omega) hn (u8s_one s) hpos (by unfold maxLen; omega) (by omega) st.hw _ rfl fun g cap w' h1 h2 h3 h4 => h _ w' (st.appended h1 h2 h3)
/-- The same in a plain region. -/
theorem app_chain {ops : Array Oper} {rest : List Oper} {o : Oper} {a : Act} {w : World} {Q : Exit → Act → World → Prop} (hgd : o.guard = none) (sl x : Operand)
    (ho : o.op = .call { callee := .builtin .append, args := #[sl, x], argTypes := #[29, 29] }) {W W0 : World} {base : Nat} {v : Value} {S : List UInt8} {us : List (Value × List UInt8)} (st : St W W0 base w v S us)
    (hs : a.eval sl = v) (u : Value) (s : List UInt8) (hx : a.eval x = u) (hm : (u, s) ∈ us) (hpos : 0 < s.length) (hb : S.length + s.length ≤ 140737488355328)
    (h : ∀ v' w', St W W0 base w' v' (S ++ s) us → wpList Tryz.prog ops Q rest (a.put o.dst v') w') :
    wpList Tryz.prog ops Q (o :: rest) a w := by
  obtain ⟨i0, hi, hz0, hz1, hz2⟩ := info_parts info5
  obtain ⟨r1, r2⟩ := st.rows _ hm
  obtain ⟨g', cap', rfl, hn⟩ := r1.news hpos
  exact wpList_append_lies w hgd sl x 29 ho base 5 i0 _ 1 1 Tryz.underlying29 hi hz0 hz1 hz2 rfl (by decide) v S.length (u8s S) hs st.own ⟨g', 0, none⟩ s.length cap' (u8s s) hx (by rw [u8s_length]; omega) hn (u8s_one s) hpos (by unfold maxLen; omega) (by omega) st.hw _ rfl fun g cap w' h1 h2 h3 h4 => h _ w' (st.appended h1 h2 h3)
/-- A call's row becomes the chain. -/
theorem St.first {W W0 w w' : World} {base : Nat} {v : Value} {S : List UInt8} {us : List (Value × List UInt8)} (h : St W W0 base w v S us) {u : Value} {s : List UInt8} (hu : w'.ownsRow w.heap.size 5 1 u s.length (u8s s)) (hn : New w w') : St W W0 base w' u s us :=
  ⟨Own.mono (b' := w.heap.size) hu h.hw, fun p hp => ⟨(h.rows p hp).1.new hn, fun k hk hv => by
    have h1 := (hu.lt k hv).1
    have h2 := ((h.rows p hp).1.lt k hk).2
    omega⟩, h.below.trans hn, h.hB, Nat.le_trans h.hw hn.size, h.keep.new hn⟩
theorem St.drop {W W0 w : World} {base : Nat} {v : Value} {S : List UInt8} {us : List (Value × List UInt8)} (h : St W W0 base w v S us) : St W W0 base w v S [] :=
  ⟨h.own, fun p hp => (by cases hp), h.below, h.hB, h.hw, h.keep⟩
/-- A call's row, with the chain behind it. -/
theorem St.flip {W W0 w w' : World} {base : Nat} {v : Value} {S : List UInt8} {us : List (Value × List UInt8)} (h : St W W0 base w v S us) {u : Value} {s : List UInt8} (hu : w'.ownsRow w.heap.size 5 1 u s.length (u8s s)) (hn : New w w') : St W W0 base w' u s [(v, S)] :=
  (St.drop (h.first hu hn)).more (h.own.new hn) (fun k hk hv => by
    have h1 := (hu.lt k hv).1
    have h2 := (h.own.lt k hk).2
    omega)
theorem St.form {W W0 w : World} {base : Nat} {v : Value} {S : List UInt8} {us : List (Value × List UInt8)} (h : St W W0 base w v S us) : ∃ p c, v = .slice p S.length c := own_len h.own
theorem St.start {W w : World} {base : Nat} (h : New W w) (hB : W.heap.size ≤ base) (hw : base ≤ w.heap.size) : St W w base w (.slice none 0 0) [] [] :=
  ⟨World.ownsRow_nil _ _ _ _, fun p hp => (by cases hp), h, hB, hw, Keep4.refl w⟩
/-- A row of us becomes the chain. -/
theorem St.turn {W W0 w : World} {base : Nat} {v : Value} {S : List UInt8} {us : List (Value × List UInt8)} {u : Value} {s : List UInt8} (h : St W W0 base w v S ((u, s) :: us)) (hd : ∀ p ∈ us, ∀ k, p.1.ownBlock = some k → u.ownBlock ≠ some k) : St W W0 base w u s us :=
  ⟨(h.rows _ (by simp)).1, fun p hp => ⟨(h.rows p (by simp [hp])).1, hd p hp⟩, h.below, h.hB, h.hw, h.keep⟩
theorem St.again {W W0 w : World} {base : Nat} {v : Value} {S : List UInt8} {us : List (Value × List UInt8)} (h : St W W0 base w v S us) : St W w base w v S us :=
  ⟨h.own, h.rows, h.below, h.hB, h.hw, Keep4.refl w⟩
theorem St.cells {W W0 w : World} {base : Nat} {v : Value} {S : List UInt8} {us : List (Value × List UInt8)} (h : St W W0 base w v S us) {k : Nat} {c : Array Value} {t : TypeId} {f : Nat × Nat} (hk : W0.heap[k]? = some (Obj.cells c t f)) (ht : t ≠ 5) : ∀ o, w.cell? ⟨k, o, none⟩ = c[o]? := cells_of (h.keep k c t f hk ht)

/-- A call of a function with one argument, as a step of a region that draws. -/
theorem enter_of {f : FuncId} {fn : Func} (hf : Tryz.prog.funcs[f]? = some fn) (hname : (fn.name == "runtime.NumGoroutine") = false) (hb : fn.body.isNone = false) (args : Array Value) (w : World) :
    (callFunc f args).run Tryz.prog w = .ok (.enter f args) w := by
  have h1 : fn.name ≠ "runtime.NumGoroutine" := by simpa using hname
  simp [callFunc, hf, h1]
  intro h0
  rw [h0] at hb
  cases hb
theorem step_call {ops : Array Oper} {o : Oper} {a : Act} {w : World} {K : Act → World → Prop} {Q : Exit → Act → World → Prop} {E : Prop} (hgd : o.guard = none) (f : FuncId) (he : ∀ args w, (callFunc f args).run Tryz.prog w = .ok (.enter f args) w) (x : Operand) (t : TypeId)
    (ho : o.op = .call { callee := .value (.func f), args := #[x], argTypes := #[t] }) (v : Value) (hx : a.eval x = v) (h : Calls Tryz.prog f #[v] w fun e w' => ∃ u, e = .returned u ∧ K (a.put o.dst u) w') :
    if Region.wanted o (yielded ops a.tmps) = true then Oper.wp Tryz.prog o a w K Q else E := by
  have hw : Region.wanted o (yielded ops a.tmps) = true := by simp [Region.wanted, hgd]
  rw [if_pos hw]
  unfold Oper.wp
  have e : (execOp a.eval o).run Tryz.prog w = .ok (.enter f #[v]) w := by
    subst hx
    simp only [← he #[a.eval x] w]
    simp [execOp, ho, go_sem]
  rw [e]
  refine h.mono ?_
  rintro e w' ⟨u, rfl, hk⟩
  exact hk
theorem enter101 (args : Array Value) (w : World) : (callFunc 102 args).run Tryz.prog w = .ok (.enter 102 args) w := enter_of Tryz.func102 (by kernel_rfl) (by kernel_rfl) args w
theorem enter102 (args : Array Value) (w : World) : (callFunc 103 args).run Tryz.prog w = .ok (.enter 103 args) w := enter_of Tryz.func103 (by kernel_rfl) (by kernel_rfl) args w
theorem step_num {ops : Array Oper} {o : Oper} {a : Act} {w : World} {K : Act → World → Prop} {Q : Exit → Act → World → Prop} {E : Prop} (hgd : o.guard = none) (x : Operand) 
    (ho : o.op = .call { callee := .value (.func 102), args := #[x], argTypes := #[3] }) {W W0 : World} {base : Nat} {v : Value} {S : List UInt8} {us : List (Value × List UInt8)} (st : St W W0 base w v S us) (n : Int) (hx : a.eval x = .int .i64 n) (h0 : 0 ≤ n) (h1 : n ≤ 4294967295)
    (h : ∀ p c w', St W W0 base w' v S ((.slice p (numB n).length c, numB n) :: us) → K (a.put o.dst (.slice p (numB n).length c)) w') :
    if Region.wanted o (yielded ops a.tmps) = true then Oper.wp Tryz.prog o a w K Q else E :=
  step_call hgd 102 enter101 x 3 ho _ hx ((num_any n w h0 h1).mono fun _ _ ⟨p, c, e, ho, hn⟩ => ⟨_, e, h p c _ (st.call ho hn)⟩)
theorem step_num_first {ops : Array Oper} {o : Oper} {a : Act} {w : World} {K : Act → World → Prop} {Q : Exit → Act → World → Prop} {E : Prop} (hgd : o.guard = none) (x : Operand) 
    (ho : o.op = .call { callee := .value (.func 102), args := #[x], argTypes := #[3] }) {W W0 : World} {base : Nat} {v : Value} {S : List UInt8} {us : List (Value × List UInt8)} (st : St W W0 base w v S us) (n : Int) (hx : a.eval x = .int .i64 n) (h0 : 0 ≤ n) (h1 : n ≤ 4294967295)
    (h : ∀ p c w', St W W0 base w' (.slice p (numB n).length c) (numB n) us → K (a.put o.dst (.slice p (numB n).length c)) w') :
    if Region.wanted o (yielded ops a.tmps) = true then Oper.wp Tryz.prog o a w K Q else E :=
  step_call hgd 102 enter101 x 3 ho _ hx ((num_any n w h0 h1).mono fun _ _ ⟨p, c, e, ho, hn⟩ => ⟨_, e, h p c _ (st.first ho hn)⟩)
theorem step_txt {ops : Array Oper} {o : Oper} {a : Act} {w : World} {K : Act → World → Prop} {Q : Exit → Act → World → Prop} {E : Prop} (hgd : o.guard = none) (x : Operand) 
    (ho : o.op = .call { callee := .value (.func 103), args := #[x], argTypes := #[9] }) {W W0 : World} {base : Nat} {v : Value} {S : List UInt8} {us : List (Value × List UInt8)} (st : St W W0 base w v S us) (s : ByteArray) (hx : a.eval x = .string s) (h1 : s.size ≤ 255)
    (h : ∀ p c w', St W W0 base w' v S ((.slice p (textB s).length c, textB s) :: us) → K (a.put o.dst (.slice p (textB s).length c)) w') :
    if Region.wanted o (yielded ops a.tmps) = true then Oper.wp Tryz.prog o a w K Q else E :=
  step_call hgd 103 enter102 x 9 ho _ hx ((text_of_any s w h1).mono fun _ _ ⟨p, c, e, ho, hn⟩ => ⟨_, e, h p c _ (st.call ho hn)⟩)

end Go.Proofs.YtdccbceaajnajaaGreat
