/- Records in memory of one's own: a clone of opens, a copied record. -/
import Derived.Test.YtbclgklpcbajfaaD3
import Derived.Test.YtbclgklpcbajfaaT20
import Derived.Deep.Onto
import Derived.Deep.RegionWith
import Derived.Deep.CutRange
import Derived.Deep.DeepCutAuto
namespace Go.Proofs.Ytbclgklpcbajfaa
open Go.RowKit
set_option linter.unusedSimpArgs false
set_option linter.unusedVariables false

theorem opnVals_one (l : List Opn) : ∀ u ∈ opnVals l, u.oneCell' = true := by
  intro u hu
  simp only [opnVals, List.mem_flatMap] at hu
  obtain ⟨x, _, hu⟩ := hu
  simp at hu
  rcases hu with rfl | rfl | rfl <;> rfl
set_option maxRecDepth 10000 in
/-- append(row, l...): all of a list of opens. -/
theorem app_opensAll {ops : Array Oper} {rest : List Oper} {o : Oper} {a : Act} {w : World} {Q : Exit → Act → World → Prop} (hgd : o.guard = none) (sl x : Operand)
    (ho : o.op = .call { callee := .builtin .append, args := #[sl, x], argTypes := #[23, 23] }) (base : Nat)
    (v : Value) (n : Nat) (xs : List Value) (hs : a.eval sl = v) (hown : w.ownsRow base 90 3 v n xs) (q : Addr) (c : Nat) (l : List Opn) (hx : a.eval x = .slice (some q) l.length c) (hu : Opens w (.slice (some q) l.length c) l)
    (hb : n + l.length ≤ 1000000000) (hbase : base ≤ w.heap.size)
    (h : ∀ v' w', w'.ownsRow base 90 3 v' (n + l.length) (xs ++ opnVals l) → w.grownBy w' v.ownBlock → (v'.ownBlock = v.ownBlock ∨ v'.ownBlock = some w.heap.size) → wpList Try.prog ops Q rest (a.put o.dst v') w') : wpList Try.prog ops Q (o :: rest) a w := by
  obtain ⟨i0, hi, hz0, hz1, hz2⟩ := info_parts info90
  obtain ⟨p, c', e, h1, h2, h3⟩ := hu
  have hl := opnVals_length l
  refine wpList_append_own_at w hgd sl x 23 ho base 90 i0 _ 3 32 Try.underlying23 hi hz0 hz1 hz2 rfl (by decide) v n xs hs hown q l.length c (opnVals l) hx (by rw [hl]; omega) (fun j u hj => ?_) (opnVals_one l) (by unfold maxLen; omega) (by omega) hbase fun v' w' h1 h2 _ h4 => h v' w' h1 h2 h4
  have hjl : j < (opnVals l).length := (List.getElem?_eq_some_iff.1 hj).1
  obtain ⟨b, off, rfl, hb', hc⟩ := h3 (by omega)
  injection e with e _ _
  injection e with e
  subst e
  have e : (⟨b, off, none⟩ : Addr).add j = ⟨b, off + j, none⟩ := by unfold Addr.add; split <;> simp_all
  rw [e, hc j hjl]
  simp [List.getD_eq_getElem?_getD, hj]

/-- Opens that come back in new memory. -/
def OpensBack (l : List Opn) (w : World) (e : Ending) (w' : World) : Prop := ∃ p k, e = .returned (.slice p l.length k) ∧ OpensIn w' (.slice p l.length k) l ∧ New w w'
set_option maxHeartbeats 800000 in
theorem cloneOpens_any (v : Value) (l : List Opn) (w : World) (h : Opens w v l) (hs : l.length ≤ 1000000) : Calls Try.prog 128 #[v] w (OpensBack l w) := by
  have h' := h
  obtain ⟨p, c, rfl, h1, h2, h3⟩ := h
  cases p with
  | none =>
    have hz : l.length = 0 := by
      rcases Nat.eq_zero_or_pos l.length with h | h
      · exact h
      · obtain ⟨b, o, e, _⟩ := h3 h
        cases e
    have he : l = [] := List.eq_nil_of_length_eq_zero hz
    subst he
    have hq := fun (w : World) => Lib.run_eql_slice_nil (P := Try.prog) w 23 90 none 0 c 0 0 Try.underlying23
    clear h' h3 hz
    go_enter Try.func128, Try.ntmps128
    go_wp2
    go_ret
    exact ⟨none, 0, rfl, OpensIn.nil w, New.refl w⟩
  | some q =>
    have hq := fun (w : World) => Lib.run_eql_slice_nil (P := Try.prog) w 23 90 (some q) l.length c 0 0 Try.underlying23
    have HX := hid (h'.new ((New.refl w).alloc #[] 90))
    have HL := hid hs
    clear h' h3 hs
    go_enter Try.func128, Try.ntmps128
    go_wp2_with (at_builtin; refine app_opensAll rfl _ _ rfl w.heap.size _ 0 [] rfl (World.ownsRow_lit w #[] 0 (Nat.le_refl _) (by decide) rfl) q c l rfl HX.out ?c1 ?c2 ?_)
    case c1 => have := HL.out; omega
    case c2 => simp
    intro v' w' hown hg hblk
    have hnew : New w w' := ((New.refl w).alloc #[] 90).grown hg (by simp) (by simp [Value.ownBlock])
    have hown' : w'.ownsRow w.heap.size 90 3 v' l.length (opnVals l) := by simpa using hown
    obtain ⟨A, k, rfl⟩ := own_len hown'
    have HO := hid hown'
    clear hown hown' hg hblk
    go_wp2
    go_ret
    exact ⟨A, k, rfl, OpensIn.own HO.out, hnew⟩

/-- A record that comes back, its parts in new memory. -/
def RecBack (r : Rec) (w : World) (e : Ending) (w' : World) : Prop := ∃ bv av uv, e = .returned (.agg (recCells r bv av uv)) ∧ RecIn w' r bv av uv ∧ New w w'
theorem cell_res {fn : Func} {p : Tmp} (h : fn.results = #[.cell p 25]) (tmps : Array Value) (w : World) (g : Nat) (t : TypeId) (cs : Array Value) (fr : Nat × Nat)
    (hp : tmps.getD p undef = .pointer (some ⟨g, 0, none⟩)) (hg : w.heap[g]? = some (.cells cs t fr)) (hi : cs.size = 10) :
    (results fn tmps).run Try.prog w = .ok (.agg cs) w := by
  have hp' : tmps[p]?.getD undef = .pointer (some ⟨g, 0, none⟩) := by simpa using hp
  have e := run_loadVar_row w g t 25 cs fr _ hg Try.underlying25 rfl (by rw [hi]; exact size25)
  simp only [results, h]
  simp [hp', asAddr, e, Sem.run_bind, Result.andThen]
/-- The two boxes of a record that is copied. -/
structure Boxes (w w' : World) (c d : Array Value) : Prop where
  new : New w w'
  one : w'.heap[w.heap.size]? = some (.cells c 25 (0, 0))
  two : w'.heap[w.heap.size + 1]? = some (.cells d 25 (0, 0))
theorem Boxes.start (w : World) (c d : Array Value) : Boxes w ((w.alloc (.cells c 25)).alloc (.cells d 25)) c d := by
  refine ⟨((New.refl w).alloc _ _).alloc _ _, ?_, ?_⟩
  · rw [Below.block ((New.refl (w.alloc (.cells c 25))).alloc d 25) _ (by simp)]; exact heap_alloc_new w _
  · have := heap_alloc_new (w.alloc (.cells c 25)) (.cells d 25)
    rwa [World.size_alloc] at this
theorem Boxes.then {w w' w'' : World} {c d : Array Value} (h : Boxes w w' c d) (hn : New w' w'') : Boxes w w'' c d :=
  ⟨h.new.trans hn, by rw [Below.block hn _ (Array.getElem?_eq_some_iff.1 h.one).1]; exact h.one, by rw [Below.block hn _ (Array.getElem?_eq_some_iff.1 h.two).1]; exact h.two⟩

theorem Boxes.put3 {w w' : World} {c d : Array Value} (h : Boxes w w' c d) (u4 u5 u9 : Value) :
    Boxes w (((w'.setCell ⟨w.heap.size, 4, none⟩ u4).setCell ⟨w.heap.size, 5, none⟩ u5).setCell ⟨w.heap.size, 9, none⟩ u9) (((c.setIfInBounds 4 u4).setIfInBounds 5 u5).setIfInBounds 9 u9) d ∧
    Turn (· = w.heap.size) w' (((w'.setCell ⟨w.heap.size, 4, none⟩ u4).setCell ⟨w.heap.size, 5, none⟩ u5).setCell ⟨w.heap.size, 9, none⟩ u9) := by
  have t4 := turn_set w' w.heap.size 4 u4
  have t5 := t4.trans (turn_set _ w.heap.size 5 u5)
  have t9 := t5.trans (turn_set _ w.heap.size 9 u9)
  refine ⟨⟨?_, ?_, ?_⟩, t9⟩
  · exact Below.trans h.new (t9.below (fun k e => by omega) h.new.size)
  · exact heap_setCell_same _ _ 9 _ 25 u9 (heap_setCell_same _ _ 5 _ 25 u5 (heap_setCell_same _ _ 4 _ 25 u4 h.one))
  · rw [t9.block _ (Array.getElem?_eq_some_iff.1 h.two).1 (by omega)]; exact h.two
theorem copied_back {w w1 w2 w3 w4 : World} {r : Rec} {v1 v2 v3 : Value} {c d : Array Value} (h1 : Content w1 v1 r.before) (h2 : Content w2 v2 r.after) (h3 : OpensIn w3 v3 r.units) (n2 : New w1 w2) (n3 : New w2 w3) (hB : Boxes w w3 c d)
    (ht : Turn (fun k => k = w.heap.size ∨ k = w.heap.size + 1) w3 w4) : RecIn w4 r v1 v2 v3 ∧ New w w4 := by
  have h5 : Apart (fun k => k = w.heap.size ∨ k = w.heap.size + 1) w3 := by
    rintro k c fr (rfl | rfl) e
    · rw [hB.one] at e; injection e with e; injection e with _ e _; exact absurd e (by decide)
    · rw [hB.two] at e; injection e with e; injection e with _ e _; exact absurd e (by decide)
  have h90 : Apart90 (fun k => k = w.heap.size ∨ k = w.heap.size + 1) w3 := by
    rintro k c fr (rfl | rfl) e
    · rw [hB.one] at e; injection e with e; injection e with _ e _; exact absurd e (by decide)
    · rw [hB.two] at e; injection e with e; injection e with _ e _; exact absurd e (by decide)
  refine ⟨⟨((h1.new n2).new n3).turn ht h5, (h2.new n3).turn ht h5, h3.turn ht h90⟩, Below.trans hB.new (ht.below (fun k e => by omega) hB.new.size)⟩

/-- A record that was copied lies in the first box. -/
def CopyState (r : Rec) (w wx : World) : Prop := ∃ p1 k1 p2 k2 p3 k3 d, Boxes w wx #[.int .i64 r.kind, .int .i64 r.unit, .int .i64 r.page, .int .i64 r.at_, .slice p1 r.before.size k1, .slice p2 r.after.size k2, .int .i64 r.back, .int .i64 r.next, .string r.text, .slice p3 r.units.length k3] (#[.int .i64 0, .int .i64 0, .int .i64 0, .int .i64 0, .slice none 0 0, .slice none 0 0, .int .i64 0, .int .i64 0, .string ⟨#[]⟩, d]) ∧ RecIn wx r (.slice p1 r.before.size k1) (.slice p2 r.after.size k2) (.slice p3 r.units.length k3)
set_option maxRecDepth 100000 in
set_option maxHeartbeats 4000000 in
theorem copied_any (r : Rec) (bv av uv : Value) (w : World) (h : RecAt w r bv av uv) (h1 : r.before.size ≤ 1000000) (h2 : r.after.size ≤ 1000000) (h3 : r.units.length ≤ 1000000) : Calls Try.prog 109 #[.agg (recCells r bv av uv)] w (RecBack r w) := by
  have H := hid h
  obtain ⟨⟨bp, bc, rfl, -⟩, ⟨ap, ac, rfl, -⟩, ⟨up, uc, rfl, -⟩⟩ := h
  have G1 := hid h1
  have G2 := hid h2
  have G3 := hid h3
  clear h1 h2 h3
  have B0 := hid (Boxes.start w #[.int .i64 r.kind, .int .i64 r.unit, .int .i64 r.page, .int .i64 r.at_, .slice bp r.before.size bc, .slice ap r.after.size ac, .int .i64 r.back, .int .i64 r.next, .string r.text, .slice up r.units.length uc] #[.int .i64 0, .int .i64 0, .int .i64 0, .int .i64 0, .slice none 0 0, .slice none 0 0, .int .i64 0, .int .i64 0, .string ⟨#[]⟩, .slice none 0 0])
  go_enter Try.func109, Try.ntmps109
  go_upto_region 1 with fail
  have B1 : Boxes w _ _ _ := B0.out
  generalize (w.alloc _).alloc _ = W0 at B1 ⊢
  have B2 : Hid (Boxes w W0.drew _ _) := hid (B1.then (New.refl W0).drew)
  clear B1 B0
  have ml := cells_of B2.out.one
  have fl := frozen_of B2.out.one
  go_cut [] (fun wx => CopyState r w wx)
  case first =>
    go_region_with (first
      | (go_at_call 65; refine (cloneBytes_any _ r.before _ (H.out.before.new (Hid.out (by assumption : Hid (Boxes w _ _ _))).new) (by have := G1.out; omega)).mono ?_; rintro e w1 ⟨p1, k1, rfl, c1, n1⟩; have B1 : Hid (Boxes w w1 _ _) := hid (Boxes.then (Hid.out (by assumption)) n1); have C1 := hid c1; have N1 := hid n1; clear c1 n1 ml fl; have ml := cells_of B1.out.one; have fl := frozen_of B1.out.one)
      | (go_at_call 65; refine (cloneBytes_any _ r.after _ (H.out.after.new (Hid.out (by assumption : Hid (Boxes w _ _ _))).new) (by have := G2.out; omega)).mono ?_; rintro e w2 ⟨p2, k2, rfl, c2, n2⟩; have B2 : Hid (Boxes w w2 _ _) := hid (Boxes.then (Hid.out (by assumption)) n2); have C2 := hid c2; have N2 := hid n2; clear c2 n2 ml fl; have ml := cells_of B2.out.one; have fl := frozen_of B2.out.one)
      | (go_at_call 128; refine (cloneOpens_any _ r.units _ (H.out.units.new (Hid.out (by assumption : Hid (Boxes w _ _ _))).new) (by have := G3.out; omega)).mono ?_; rintro e w3 ⟨p3, k3, rfl, c3, n3⟩; have B3 : Hid (Boxes w w3 _ _) := hid (Boxes.then (Hid.out (by assumption)) n3); have C3 := hid c3; have N3 := hid n3; clear c3 n3 ml fl; have ml := cells_of B3.out.one; have fl := frozen_of B3.out.one))
    all_goals
      have P3 := hid (B3.out.put3 (.slice p1 r.before.size k1) (.slice p2 r.after.size k2) (.slice p3 r.units.length k3))
      have hb := hid (copied_back C1.out C2.out C3.out N2.out N3.out B3.out (P3.out.2.mono (fun k _ e => Or.inl e)))
      go_wp2_with fail
      go_meet
      exact ⟨p1, k1, p2, k2, p3, k3, _, P3.out.1, hb.out.1⟩
  case rest =>
    obtain ⟨p1, k1, p2, k2, p3, k3, d, B3, hr⟩ := hcut
    have HB := hid B3
    have HR := hid hr
    clear ml fl B3 hr
    have ml := cells_of HB.out.one
    have m2 := cells_of HB.out.two
    have fl := frozen_of HB.out.two
    go_wp2
    have hs := set10 HB.out.two (.int .i64 r.kind) (.int .i64 r.unit) (.int .i64 r.page) (.int .i64 r.at_) (.slice p1 r.before.size k1) (.slice p2 r.after.size k2) (.int .i64 r.back) (.int .i64 r.next) (.string r.text) (.slice p3 r.units.length k3)
    (try simp only [Exit.inBlock, Exit.then])
    refine bodyPost_ret (cell_res rfl _ _ (w.heap.size + 1) 25 _ (0, 0) rfl hs.1 rfl) rfl ?_
    have h5 : Apart (fun k => k = w.heap.size + 1) wc := apart_of HB.out.two (by decide)
    have h90 : Apart90 (fun k => k = w.heap.size + 1) wc := fun k c fr hk hh => by subst hk; exact type_ne HB.out.two hh (by decide) rfl
    exact ⟨_, _, _, rfl, HR.out.turn hs.2 h5 h90, Below.trans HB.out.new (hs.2.below (fun k e => by omega) HB.out.new.size)⟩

end Go.Proofs.Ytbclgklpcbajfaa
