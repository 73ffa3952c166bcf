/- Records in memory of one's own: a clone of opens, a copied record. -/
import Derived.Test.YtdccbceaajnajaaD3
import Derived.Test.YtdccbceaajnajaaT20
import Derived.Deep.Onto
import Derived.Deep.RegionWith
import Derived.Deep.CutRange
import Derived.Deep.DeepCutAuto
namespace Go.Proofs.Ytdccbceaajnajaa
open Go.RowKit
set_option linter.unusedSimpArgs false
set_option linter.unusedVariables false

theorem opnVals_one (l : List Opn) : ∀ u ∈ opnVals l, u.oneCell' = true := by
  intro u hu
  simp only [opnVals, List.mem_flatMap] at hu
  obtain ⟨x, _, hu⟩ := hu
  simp at hu
  rcases hu with rfl | rfl | rfl <;> rfl
set_option maxRecDepth 10000 in
/-- append(row, l...): all of a list of opens. -/
theorem app_opensAll {ops : Array Oper} {rest : List Oper} {o : Oper} {a : Act} {w : World} {Q : Exit → Act → World → Prop} (hgd : o.guard = none) (sl x : Operand)
    (ho : o.op = .call { callee := .builtin .append, args := #[sl, x], argTypes := #[67, 67] }) (base : Nat)
    (v : Value) (n : Nat) (xs : List Value) (hs : a.eval sl = v) (hown : w.ownsRow base 99 3 v n xs) (q : Addr) (c : Nat) (l : List Opn) (hx : a.eval x = .slice (some q) l.length c) (hu : Opens w (.slice (some q) l.length c) l)
    (hb : n + l.length ≤ 1000000000) (hbase : base ≤ w.heap.size)
    (h : ∀ v' w', w'.ownsRow base 99 3 v' (n + l.length) (xs ++ opnVals l) → w.grownBy w' v.ownBlock → (v'.ownBlock = v.ownBlock ∨ v'.ownBlock = some w.heap.size) → wpList Try.prog ops Q rest (a.put o.dst v') w') : wpList Try.prog ops Q (o :: rest) a w := by
  obtain ⟨i0, hi, hz0, hz1, hz2⟩ := info_parts info90
  obtain ⟨p, c', e, h1, h2, h3⟩ := hu
  have hl := opnVals_length l
  refine wpList_append_own_at w hgd sl x 67 ho base 99 i0 _ 3 32 Try.underlying67 hi hz0 hz1 hz2 rfl (by decide) v n xs hs hown q l.length c (opnVals l) hx (by rw [hl]; omega) (fun j u hj => ?_) (opnVals_one l) (by unfold maxLen; omega) (by omega) hbase fun v' w' h1 h2 _ h4 => h v' w' h1 h2 h4
  have hjl : j < (opnVals l).length := (List.getElem?_eq_some_iff.1 hj).1
  obtain ⟨b, off, rfl, hb', hc⟩ := h3 (by omega)
  injection e with e _ _
  injection e with e
  subst e
  have e : (⟨b, off, none⟩ : Addr).add j = ⟨b, off + j, none⟩ := by unfold Addr.add; split <;> simp_all
  rw [e, hc j hjl]
  simp [List.getD_eq_getElem?_getD, hj]

/-- Opens that come back in new memory. -/
def OpensBack (l : List Opn) (w : World) (e : Ending) (w' : World) : Prop := ∃ p k, e = .returned (.slice p l.length k) ∧ OpensIn w' (.slice p l.length k) l ∧ New w w'
/-- A record that comes back, its parts in new memory. -/
def RecBack (r : Rec) (w : World) (e : Ending) (w' : World) : Prop := ∃ bv av uv, e = .returned (.agg (recCells r bv av uv)) ∧ RecIn w' r bv av uv ∧ New w w'
theorem cell_res {fn : Func} {p : Tmp} (h : fn.results = #[.cell p 69]) (tmps : Array Value) (w : World) (g : Nat) (t : TypeId) (cs : Array Value) (fr : Nat × Nat)
    (hp : tmps.getD p undef = .pointer (some ⟨g, 0, none⟩)) (hg : w.heap[g]? = some (.cells cs t fr)) (hi : cs.size = 10) :
    (results fn tmps).run Try.prog w = .ok (.agg cs) w := by
  have hp' : tmps[p]?.getD undef = .pointer (some ⟨g, 0, none⟩) := by simpa using hp
  have e := run_loadVar_row w g t 69 cs fr _ hg Try.underlying69 rfl (by rw [hi]; exact size25)
  simp only [results, h]
  simp [hp', asAddr, e, Sem.run_bind, Result.andThen]
/-- The two boxes of a record that is copied. -/
structure Boxes (w w' : World) (c d : Array Value) : Prop where
  new : New w w'
  one : w'.heap[w.heap.size]? = some (.cells c 69 (0, 0))
  two : w'.heap[w.heap.size + 1]? = some (.cells d 69 (0, 0))
theorem Boxes.start (w : World) (c d : Array Value) : Boxes w ((w.alloc (.cells c 69)).alloc (.cells d 69)) c d := by
  refine ⟨((New.refl w).alloc _ _).alloc _ _, ?_, ?_⟩
  · rw [Below.block ((New.refl (w.alloc (.cells c 69))).alloc d 69) _ (by simp)]; exact heap_alloc_new w _
  · have := heap_alloc_new (w.alloc (.cells c 69)) (.cells d 69)
    rwa [World.size_alloc] at this
theorem Boxes.then {w w' w'' : World} {c d : Array Value} (h : Boxes w w' c d) (hn : New w' w'') : Boxes w w'' c d :=
  ⟨h.new.trans hn, by rw [Below.block hn _ (Array.getElem?_eq_some_iff.1 h.one).1]; exact h.one, by rw [Below.block hn _ (Array.getElem?_eq_some_iff.1 h.two).1]; exact h.two⟩

theorem Boxes.put3 {w w' : World} {c d : Array Value} (h : Boxes w w' c d) (u4 u5 u9 : Value) :
    Boxes w (((w'.setCell ⟨w.heap.size, 4, none⟩ u4).setCell ⟨w.heap.size, 5, none⟩ u5).setCell ⟨w.heap.size, 9, none⟩ u9) (((c.setIfInBounds 4 u4).setIfInBounds 5 u5).setIfInBounds 9 u9) d ∧
    Turn (· = w.heap.size) w' (((w'.setCell ⟨w.heap.size, 4, none⟩ u4).setCell ⟨w.heap.size, 5, none⟩ u5).setCell ⟨w.heap.size, 9, none⟩ u9) := by
  have t4 := turn_set w' w.heap.size 4 u4
  have t5 := t4.trans (turn_set _ w.heap.size 5 u5)
  have t9 := t5.trans (turn_set _ w.heap.size 9 u9)
  refine ⟨⟨?_, ?_, ?_⟩, t9⟩
  · exact Below.trans h.new (t9.below (fun k e => by omega) h.new.size)
  · exact heap_setCell_same _ _ 9 _ 69 u9 (heap_setCell_same _ _ 5 _ 69 u5 (heap_setCell_same _ _ 4 _ 69 u4 h.one))
  · rw [t9.block _ (Array.getElem?_eq_some_iff.1 h.two).1 (by omega)]; exact h.two
theorem copied_back {w w1 w2 w3 w4 : World} {r : Rec} {v1 v2 v3 : Value} {c d : Array Value} (h1 : Content w1 v1 r.before) (h2 : Content w2 v2 r.after) (h3 : OpensIn w3 v3 r.units) (n2 : New w1 w2) (n3 : New w2 w3) (hB : Boxes w w3 c d)
    (ht : Turn (fun k => k = w.heap.size ∨ k = w.heap.size + 1) w3 w4) : RecIn w4 r v1 v2 v3 ∧ New w w4 := by
  have h5 : Apart (fun k => k = w.heap.size ∨ k = w.heap.size + 1) w3 := by
    rintro k c fr (rfl | rfl) e
    · rw [hB.one] at e; injection e with e; injection e with _ e _; exact absurd e (by decide)
    · rw [hB.two] at e; injection e with e; injection e with _ e _; exact absurd e (by decide)
  have h90 : Apart90 (fun k => k = w.heap.size ∨ k = w.heap.size + 1) w3 := by
    rintro k c fr (rfl | rfl) e
    · rw [hB.one] at e; injection e with e; injection e with _ e _; exact absurd e (by decide)
    · rw [hB.two] at e; injection e with e; injection e with _ e _; exact absurd e (by decide)
  refine ⟨⟨((h1.new n2).new n3).turn ht h5, (h2.new n3).turn ht h5, h3.turn ht h90⟩, Below.trans hB.new (ht.below (fun k e => by omega) hB.new.size)⟩

/-- A record that was copied lies in the first box. -/
def CopyState (r : Rec) (w wx : World) : Prop := ∃ p1 k1 p2 k2 p3 k3 d, Boxes w wx #[.int .i64 r.kind, .int .i64 r.unit, .int .i64 r.page, .int .i64 r.at_, .slice p1 r.before.size k1, .slice p2 r.after.size k2, .int .i64 r.back, .int .i64 r.next, .string r.text, .slice p3 r.units.length k3] (#[.int .i64 0, .int .i64 0, .int .i64 0, .int .i64 0, .slice none 0 0, .slice none 0 0, .int .i64 0, .int .i64 0, .string ⟨#[]⟩, d]) ∧ RecIn wx r (.slice p1 r.before.size k1) (.slice p2 r.after.size k2) (.slice p3 r.units.length k3)
end Go.Proofs.Ytdccbceaajnajaa
