/- Words for progenyref03.Decode: its reader, its record, its end. Records in memory of one's own: a clone of opens, a copied record. disk.Disk.Write at each made disk; nil disks and zero ones. -/
import Derived.Test.YtdccbceaajnajaaGreatT13
import Derived.Test.YtdccbceaajnajaaGreatT14
import Derived.Test.YtdccbceaajnajaaGreatT5
import Derived.Test.YtdccbceaajnajaaGreatT20
import Derived.Test.YtdccbceaajnajaaGreatT21
import Derived.Test.YtdccbceaajnajaaGreatD3
import Derived.Deep.Onto
import Derived.Deep.RegionWith
import Derived.Deep.CutRange
import Derived.Deep.DeepCutAuto
namespace Go.Proofs.YtdccbceaajnajaaGreat
open Go.RowKit
set_option linter.unusedSimpArgs false
set_option linter.unusedVariables false

theorem qnumber_at (x : Nat) (s : RS) (n : Int) (s' : RS) (w : World) (e : rdNum s = (n, s')) (h : QdAt w x s) : Calls Tryz.prog 42 #[.pointer (some ⟨x, 0, none⟩)] w (QBack x (.int .i64 n) s' w) := by
  have := refNumber_any x s w h; rw [e] at this; exact this
abbrev zeroCells : Array Value := #[.int .i64 0, .int .i64 0, .int .i64 0, .int .i64 0, .slice none 0 0, .slice none 0 0, .int .i64 0, .int .i64 0, .string ByteArray.empty, .slice none 0 0]
/-- The reader and the record that is returned, before the record that is filled is made. -/
structure QP (w0 w : World) (x : Nat) (s : RS) : Prop where
  rd : QdAt w x s
  t3 : w.heap[w0.heap.size]? = some (.cells #[.int .i64 0, .int .i64 0, .int .i64 0, .int .i64 0, .slice none 0 0, .slice none 0 0, .int .i64 0, .int .i64 0, .string ByteArray.empty, .slice none 0 0] 70 (0, 0))
  new : New w0 w
  hx : w0.heap.size ≤ x
theorem QP.start {w0 w : World} {x : Nat} {s : RS} (hr : QdAt w x s) (hn : New (w0.alloc (.cells #[.int .i64 0, .int .i64 0, .int .i64 0, .int .i64 0, .slice none 0 0, .slice none 0 0, .int .i64 0, .int .i64 0, .string ⟨#[]⟩, .slice none 0 0] 70)) w) (hx : w0.heap.size ≤ x) : QP w0 w x s :=
  ⟨hr, by rw [Below.block hn _ (by simp)]; exact heap_alloc_new w0 _, ((New.refl w0).alloc _ _).trans hn, hx⟩
theorem QP.read {w0 w w' : World} {x : Nat} {s s' : RS} (h : QP w0 w x s) (hr : QdAt w' x s') (ht : Turn (· = x) w w') : QP w0 w' x s' := by
  obtain ⟨d, hd⟩ := qdLaw.typed h.rd
  exact ⟨hr, by rw [ht.block _ (Array.getElem?_eq_some_iff.1 h.t3).1 (type_ne h.t3 hd (by decide))]; exact h.t3, Below.trans h.new (ht.below (fun k e => e ▸ h.hx) h.new.size), h.hx⟩
theorem QP.made {w0 w : World} {x : Nat} {s : RS} (h : QP w0 w x s) :
    DS QdAt [(w0.heap.size, #[.int .i64 0, .int .i64 0, .int .i64 0, .int .i64 0, .slice none 0 0, .slice none 0 0, .int .i64 0, .int .i64 0, .string ByteArray.empty, .slice none 0 0], 70)] w0
      (w.alloc (.cells #[.int .i64 0, .int .i64 0, .int .i64 0, .int .i64 0, .slice none 0 0, .slice none 0 0, .int .i64 0, .int .i64 0, .string ⟨#[]⟩, .slice none 0 0] 70)) w.heap.size x rec0 (.slice none 0 0) (.slice none 0 0) (.slice none 0 0) s := by
  have hl := (Array.getElem?_eq_some_iff.1 h.t3).1
  have hn := (New.refl w).alloc #[.int .i64 0, .int .i64 0, .int .i64 0, .int .i64 0, .slice none 0 0, .slice none 0 0, .int .i64 0, .int .i64 0, .string ⟨#[]⟩, .slice none 0 0] 70
  obtain ⟨d, hd⟩ := qdLaw.typed h.rd
  refine ⟨heap_alloc_new w _, h.rd.new hn, fun p hp => ?_, Content.nil _, Content.nil _, World.ownsRow_nil _ _ _ _, h.new.trans hn, h.new.size, h.hx⟩
  rcases List.mem_singleton.1 hp with rfl
  exact ⟨by rw [Below.block hn _ hl]; exact h.t3, by show w0.heap.size ≠ w.heap.size; omega, type_ne h.t3 hd (by decide), by dsimp only; decide⟩
/-- Another record is laid last. -/
theorem DS.lastF {Rd : World → Nat → RS → Prop} {F : List (Nat × Array Value × TypeId)} {w0 w w' : World} {b x : Nat} {r : Rec} {bv av uv : Value} {s : RS} (h : DS Rd F w0 w b x r bv av uv s) {k : Nat} {c : Array Value} (hk : w.heap[k]? = some (.cells c 70 (0, 0))) (hk0 : w0.heap.size ≤ k) (ht : Turn (· = k) w w') : RecIn w' r bv av uv ∧ New w0 w' := by
  have hA := apart_of hk (by decide)
  exact ⟨⟨h.bef.turn ht hA, h.aft.turn ht hA, OpensIn.own (own_turn h.un ht (fun j hj e => own_ne h.un hk (by decide) (e ▸ hj)))⟩, Below.trans h.new (ht.below (fun k e => e ▸ hk0) h.new.size)⟩

/-- What the specification's Encode returns, in one sentence. -/
def REnc (n : Int) (r : Rec) (w : World) (e : Ending) (w' : World) : Prop :=
  ∃ p k c, ∃ er : Int, e = .returned (.tuple #[.slice p k c, .int .i64 er]) ∧ New w w' ∧ ((validB r && wi 1 n 1000000) = true → er = 0 ∧ Bytes w' (.slice p k c) (bytesOf (encB n r))) ∧ ((validB r && wi 1 n 1000000) = false → er = 2)
theorem renc_all (n : Int) (r : Rec) (bv av uv : Value) (w : World) (h : RecAt w r bv av uv) : Calls Tryz.prog 64 #[.int .i64 n, .agg (recCells r bv av uv)] w (REnc n r w) := by
  refine (refEncode_any n r bv av uv w h).mono ?_
  rintro e w' he
  by_cases g : (validB r && wi 1 n 1000000) = true
  · simp only [g, if_true] at he
    obtain ⟨v, rfl, hb, hn⟩ := he
    obtain ⟨p, c, rfl, _⟩ := id hb
    exact ⟨p, _, c, 0, rfl, hn, fun _ => ⟨rfl, hb⟩, (fun h => by rw [g] at h; exact absurd h (by decide))⟩
  · have g : (validB r && wi 1 n 1000000) = false := by simpa using g
    simp only [g, Bool.false_eq_true, if_false] at he
    obtain ⟨rfl, hn⟩ := he
    exact ⟨none, 0, 0, 2, rfl, hn, (fun h => by rw [g] at h; exact absurd h (by decide)), fun _ => rfl⟩
theorem enc_all (n : Int) (r : Rec) (bv av uv : Value) (w : World) (h : RecAt w r bv av uv) : Calls Tryz.prog 62 #[.int .i64 n, .agg (recCells r bv av uv)] w (REnc n r w) := by
  refine (encode_any n r bv av uv w h).mono ?_
  rintro e w' he
  by_cases g : (validB r && wi 1 n 1000000) = true
  · simp only [g, if_true] at he
    obtain ⟨v, rfl, hb, hn⟩ := he
    obtain ⟨p, c, rfl, _⟩ := id hb
    exact ⟨p, _, c, 0, rfl, hn, fun _ => ⟨rfl, hb⟩, (fun h => by rw [g] at h; exact absurd h (by decide))⟩
  · have g : (validB r && wi 1 n 1000000) = false := by simpa using g
    simp only [g, Bool.false_eq_true, if_false] at he
    obtain ⟨rfl, hn⟩ := he
    exact ⟨none, 0, 0, 2, rfl, hn, (fun h => by rw [g] at h; exact absurd h (by decide)), fun _ => rfl⟩

theorem decOk_none {l : List UInt8} {r : Rec} (h : decRec l = (r, none)) : decOk l = false := by simp [decOk, h]
theorem decOk_bad {l : List UInt8} {r : Rec} {s : RS} {n : Int} (h : decRec l = (r, s)) (hn : (decHead l).num = n) (hb : (validB r && wi 1 n 1000000) = false) : decOk l = false := by
  simp only [decOk, h, hn]
  simp only [Bool.and_eq_false_iff] at hb ⊢
  rcases hb with hb | hb
  · exact .inr hb
  · exact .inl (.inr hb)
theorem decOk_other {l : List UInt8} {r : Rec} {s : RS} {n : Int} (h : decRec l = (r, s)) (hn : (decHead l).num = n) (hb : encB n r ≠ l) : decOk l = false := by
  rw [← Bool.not_eq_true]
  intro hk
  simp only [decOk, Bool.and_eq_true, decide_eq_true_eq] at hk
  have := dec_enc hk.1.1.1 hk.1.1.2
  rw [hn, h] at this
  exact hb this
theorem decOk_same {l : List UInt8} {r : Rec} {n : Int} (hb : (validB r && wi 1 n 1000000) = true) (he : encB n r = l) : decOk l = true ∧ decRec l = (r, some []) ∧ (decHead l).num = n := by
  rw [Bool.and_eq_true, wi_iff] at hb
  obtain ⟨h1, h2⟩ := enc_dec hb.1 hb.2.1 hb.2.2
  rw [he] at h1 h2
  refine ⟨?_, h2, by rw [h1]⟩
  simp only [decOk, h2, h1, hb.1]
  have : wi 1 n 1000000 = true := by rw [wi_iff]; exact hb.2
  rw [this]; simp
theorem bytesOf_inj {a b : List UInt8} (h : bytesOf a = bytesOf b) : a = b := by
  have := congrArg (fun s : ByteArray => s.data.toList) h
  simpa [bytesOf] using this
theorem qd_bad {w : World} {x : Nat} {l : List UInt8} (h : QdAt w x (some l)) : w.cell? ⟨x, 1, none⟩ = some (.bool false) := by
  obtain ⟨v, bad, h1, _, rfl, _⟩ := h
  exact (qd_cells h1).2.1
theorem qd_bad_none {w : World} {x : Nat} (h : QdAt w x none) : w.cell? ⟨x, 1, none⟩ = some (.bool true) := by
  obtain ⟨v, bad, h1, _, rfl⟩ := h
  exact (qd_cells h1).2.1

end Go.Proofs.YtdccbceaajnajaaGreat

namespace Go.Proofs.YtdccbceaajnajaaGreat
open Go.RowKit
set_option linter.unusedSimpArgs false
set_option linter.unusedVariables false

theorem opnVals_one (l : List Opn) : ∀ u ∈ opnVals l, u.oneCell' = true := by
  intro u hu
  simp only [opnVals, List.mem_flatMap] at hu
  obtain ⟨x, _, hu⟩ := hu
  simp at hu
  rcases hu with rfl | rfl | rfl <;> rfl
set_option maxRecDepth 10000 in
/-- append(row, l...): all of a list of opens. -/
theorem app_opensAll {ops : Array Oper} {rest : List Oper} {o : Oper} {a : Act} {w : World} {Q : Exit → Act → World → Prop} (hgd : o.guard = none) (sl x : Operand)
    (ho : o.op = .call { callee := .builtin .append, args := #[sl, x], argTypes := #[68, 68] }) (base : Nat)
    (v : Value) (n : Nat) (xs : List Value) (hs : a.eval sl = v) (hown : w.ownsRow base 133 3 v n xs) (q : Addr) (c : Nat) (l : List Opn) (hx : a.eval x = .slice (some q) l.length c) (hu : Opens w (.slice (some q) l.length c) l)
    (hb : n + l.length ≤ 1000000000) (hbase : base ≤ w.heap.size)
    (h : ∀ v' w', w'.ownsRow base 133 3 v' (n + l.length) (xs ++ opnVals l) → w.grownBy w' v.ownBlock → (v'.ownBlock = v.ownBlock ∨ v'.ownBlock = some w.heap.size) → wpList Tryz.prog ops Q rest (a.put o.dst v') w') : wpList Tryz.prog ops Q (o :: rest) a w := by
  obtain ⟨i0, hi, hz0, hz1, hz2⟩ := info_parts info90
  obtain ⟨p, c', e, h1, h2, h3⟩ := hu
  have hl := opnVals_length l
  refine wpList_append_own_at w hgd sl x 68 ho base 133 i0 _ 3 32 Tryz.underlying68 hi hz0 hz1 hz2 rfl (by decide) v n xs hs hown q l.length c (opnVals l) hx (by rw [hl]; omega) (fun j u hj => ?_) (opnVals_one l) (by unfold maxLen; omega) (by omega) hbase fun v' w' h1 h2 _ h4 => h v' w' h1 h2 h4
  have hjl : j < (opnVals l).length := (List.getElem?_eq_some_iff.1 hj).1
  obtain ⟨b, off, rfl, hb', hc⟩ := h3 (by omega)
  injection e with e _ _
  injection e with e
  subst e
  have e : (⟨b, off, none⟩ : Addr).add j = ⟨b, off + j, none⟩ := by unfold Addr.add; split <;> simp_all
  rw [e, hc j hjl]
  simp [List.getD_eq_getElem?_getD, hj]

/-- Opens that come back in new memory. -/
def OpensBack (l : List Opn) (w : World) (e : Ending) (w' : World) : Prop := ∃ p k, e = .returned (.slice p l.length k) ∧ OpensIn w' (.slice p l.length k) l ∧ New w w'
set_option maxHeartbeats 800000 in
theorem cloneOpens_any (v : Value) (l : List Opn) (w : World) (h : Opens w v l) (hs : l.length ≤ 1000000) : Calls Tryz.prog 100 #[v] w (OpensBack l w) := by
  have h' := h
  obtain ⟨p, c, rfl, h1, h2, h3⟩ := h
  cases p with
  | none =>
    have hz : l.length = 0 := by
      rcases Nat.eq_zero_or_pos l.length with h | h
      · exact h
      · obtain ⟨b, o, e, _⟩ := h3 h
        cases e
    have he : l = [] := List.eq_nil_of_length_eq_zero hz
    subst he
    have hq := fun (w : World) => Lib.run_eql_slice_nil (P := Tryz.prog) w 68 133 none 0 c 0 0 Tryz.underlying68
    clear h' h3 hz
    go_enter Tryz.func100, Tryz.ntmps100
    go_wp2
    go_ret
    exact ⟨none, 0, rfl, OpensIn.nil w, New.refl w⟩
  | some q =>
    have hq := fun (w : World) => Lib.run_eql_slice_nil (P := Tryz.prog) w 68 133 (some q) l.length c 0 0 Tryz.underlying68
    have HX := hid (h'.new ((New.refl w).alloc #[] 133))
    have HL := hid hs
    clear h' h3 hs
    go_enter Tryz.func100, Tryz.ntmps100
    go_wp2_with (at_builtin; refine app_opensAll rfl _ _ rfl w.heap.size _ 0 [] rfl (World.ownsRow_lit w #[] 0 (Nat.le_refl _) (by decide) rfl) q c l rfl HX.out ?c1 ?c2 ?_)
    case c1 => have := HL.out; omega
    case c2 => simp
    intro v' w' hown hg hblk
    have hnew : New w w' := ((New.refl w).alloc #[] 133).grown hg (by simp) (by simp [Value.ownBlock])
    have hown' : w'.ownsRow w.heap.size 133 3 v' l.length (opnVals l) := by simpa using hown
    obtain ⟨A, k, rfl⟩ := own_len hown'
    have HO := hid hown'
    clear hown hown' hg hblk
    go_wp2
    go_ret
    exact ⟨A, k, rfl, OpensIn.own HO.out, hnew⟩

/-- A record that comes back, its parts in new memory. -/
def RecBack (r : Rec) (w : World) (e : Ending) (w' : World) : Prop := ∃ bv av uv, e = .returned (.agg (recCells r bv av uv)) ∧ RecIn w' r bv av uv ∧ New w w'
theorem cell_res {fn : Func} {p : Tmp} (h : fn.results = #[.cell p 70]) (tmps : Array Value) (w : World) (g : Nat) (t : TypeId) (cs : Array Value) (fr : Nat × Nat)
    (hp : tmps.getD p undef = .pointer (some ⟨g, 0, none⟩)) (hg : w.heap[g]? = some (.cells cs t fr)) (hi : cs.size = 10) :
    (results fn tmps).run Tryz.prog w = .ok (.agg cs) w := by
  have hp' : tmps[p]?.getD undef = .pointer (some ⟨g, 0, none⟩) := by simpa using hp
  have e := run_loadVar_row w g t 70 cs fr _ hg Tryz.underlying70 rfl (by rw [hi]; exact size25)
  simp only [results, h]
  simp [hp', asAddr, e, Sem.run_bind, Result.andThen]
/-- The two boxes of a record that is copied. -/
structure Boxes (w w' : World) (c d : Array Value) : Prop where
  new : New w w'
  one : w'.heap[w.heap.size]? = some (.cells c 70 (0, 0))
  two : w'.heap[w.heap.size + 1]? = some (.cells d 70 (0, 0))
theorem Boxes.start (w : World) (c d : Array Value) : Boxes w ((w.alloc (.cells c 70)).alloc (.cells d 70)) c d := by
  refine ⟨((New.refl w).alloc _ _).alloc _ _, ?_, ?_⟩
  · rw [Below.block ((New.refl (w.alloc (.cells c 70))).alloc d 70) _ (by simp)]; exact heap_alloc_new w _
  · have := heap_alloc_new (w.alloc (.cells c 70)) (.cells d 70)
    rwa [World.size_alloc] at this
theorem Boxes.then {w w' w'' : World} {c d : Array Value} (h : Boxes w w' c d) (hn : New w' w'') : Boxes w w'' c d :=
  ⟨h.new.trans hn, by rw [Below.block hn _ (Array.getElem?_eq_some_iff.1 h.one).1]; exact h.one, by rw [Below.block hn _ (Array.getElem?_eq_some_iff.1 h.two).1]; exact h.two⟩

theorem Boxes.put3 {w w' : World} {c d : Array Value} (h : Boxes w w' c d) (u4 u5 u9 : Value) :
    Boxes w (((w'.setCell ⟨w.heap.size, 4, none⟩ u4).setCell ⟨w.heap.size, 5, none⟩ u5).setCell ⟨w.heap.size, 9, none⟩ u9) (((c.setIfInBounds 4 u4).setIfInBounds 5 u5).setIfInBounds 9 u9) d ∧
    Turn (· = w.heap.size) w' (((w'.setCell ⟨w.heap.size, 4, none⟩ u4).setCell ⟨w.heap.size, 5, none⟩ u5).setCell ⟨w.heap.size, 9, none⟩ u9) := by
  have t4 := turn_set w' w.heap.size 4 u4
  have t5 := t4.trans (turn_set _ w.heap.size 5 u5)
  have t9 := t5.trans (turn_set _ w.heap.size 9 u9)
  refine ⟨⟨?_, ?_, ?_⟩, t9⟩
  · exact Below.trans h.new (t9.below (fun k e => by omega) h.new.size)
  · exact heap_setCell_same _ _ 9 _ 70 u9 (heap_setCell_same _ _ 5 _ 70 u5 (heap_setCell_same _ _ 4 _ 70 u4 h.one))
  · rw [t9.block _ (Array.getElem?_eq_some_iff.1 h.two).1 (by omega)]; exact h.two
theorem copied_back {w w1 w2 w3 w4 : World} {r : Rec} {v1 v2 v3 : Value} {c d : Array Value} (h1 : Content w1 v1 r.before) (h2 : Content w2 v2 r.after) (h3 : OpensIn w3 v3 r.units) (n2 : New w1 w2) (n3 : New w2 w3) (hB : Boxes w w3 c d)
    (ht : Turn (fun k => k = w.heap.size ∨ k = w.heap.size + 1) w3 w4) : RecIn w4 r v1 v2 v3 ∧ New w w4 := by
  have h5 : Apart (fun k => k = w.heap.size ∨ k = w.heap.size + 1) w3 := by
    rintro k c fr (rfl | rfl) e
    · rw [hB.one] at e; injection e with e; injection e with _ e _; exact absurd e (by decide)
    · rw [hB.two] at e; injection e with e; injection e with _ e _; exact absurd e (by decide)
  have h90 : Apart90 (fun k => k = w.heap.size ∨ k = w.heap.size + 1) w3 := by
    rintro k c fr (rfl | rfl) e
    · rw [hB.one] at e; injection e with e; injection e with _ e _; exact absurd e (by decide)
    · rw [hB.two] at e; injection e with e; injection e with _ e _; exact absurd e (by decide)
  refine ⟨⟨((h1.new n2).new n3).turn ht h5, (h2.new n3).turn ht h5, h3.turn ht h90⟩, Below.trans hB.new (ht.below (fun k e => by omega) hB.new.size)⟩

/-- A record that was copied lies in the first box. -/
def CopyState (r : Rec) (w wx : World) : Prop := ∃ p1 k1 p2 k2 p3 k3 d, Boxes w wx #[.int .i64 r.kind, .int .i64 r.unit, .int .i64 r.page, .int .i64 r.at_, .slice p1 r.before.size k1, .slice p2 r.after.size k2, .int .i64 r.back, .int .i64 r.next, .string r.text, .slice p3 r.units.length k3] (#[.int .i64 0, .int .i64 0, .int .i64 0, .int .i64 0, .slice none 0 0, .slice none 0 0, .int .i64 0, .int .i64 0, .string ⟨#[]⟩, d]) ∧ RecIn wx r (.slice p1 r.before.size k1) (.slice p2 r.after.size k2) (.slice p3 r.units.length k3)
set_option maxRecDepth 100000 in
set_option maxHeartbeats 4000000 in
theorem copied_any (r : Rec) (bv av uv : Value) (w : World) (h : RecAt w r bv av uv) (h1 : r.before.size ≤ 1000000) (h2 : r.after.size ≤ 1000000) (h3 : r.units.length ≤ 1000000) : Calls Tryz.prog 63 #[.agg (recCells r bv av uv)] w (RecBack r w) := by
  have H := hid h
  obtain ⟨⟨bp, bc, rfl, -⟩, ⟨ap, ac, rfl, -⟩, ⟨up, uc, rfl, -⟩⟩ := h
  have G1 := hid h1
  have G2 := hid h2
  have G3 := hid h3
  clear h1 h2 h3
  have B0 := hid (Boxes.start w #[.int .i64 r.kind, .int .i64 r.unit, .int .i64 r.page, .int .i64 r.at_, .slice bp r.before.size bc, .slice ap r.after.size ac, .int .i64 r.back, .int .i64 r.next, .string r.text, .slice up r.units.length uc] #[.int .i64 0, .int .i64 0, .int .i64 0, .int .i64 0, .slice none 0 0, .slice none 0 0, .int .i64 0, .int .i64 0, .string ⟨#[]⟩, .slice none 0 0])
  go_enter Tryz.func63, Tryz.ntmps63
  go_upto_region 1 with fail
  have B1 : Boxes w _ _ _ := B0.out
  generalize (w.alloc _).alloc _ = W0 at B1 ⊢
  have B2 : Hid (Boxes w W0.drew _ _) := hid (B1.then (New.refl W0).drew)
  clear B1 B0
  have ml := cells_of B2.out.one
  have fl := frozen_of B2.out.one
  go_cut [] (fun wx => CopyState r w wx)
  case first =>
    go_region_with (first
      | (go_at_call 39; refine (cloneBytes_any _ r.before _ (H.out.before.new (Hid.out (by assumption : Hid (Boxes w _ _ _))).new) (by have := G1.out; omega)).mono ?_; rintro e w1 ⟨p1, k1, rfl, c1, n1⟩; have B1 : Hid (Boxes w w1 _ _) := hid (Boxes.then (Hid.out (by assumption)) n1); have C1 := hid c1; have N1 := hid n1; clear c1 n1 ml fl; have ml := cells_of B1.out.one; have fl := frozen_of B1.out.one)
      | (go_at_call 39; refine (cloneBytes_any _ r.after _ (H.out.after.new (Hid.out (by assumption : Hid (Boxes w _ _ _))).new) (by have := G2.out; omega)).mono ?_; rintro e w2 ⟨p2, k2, rfl, c2, n2⟩; have B2 : Hid (Boxes w w2 _ _) := hid (Boxes.then (Hid.out (by assumption)) n2); have C2 := hid c2; have N2 := hid n2; clear c2 n2 ml fl; have ml := cells_of B2.out.one; have fl := frozen_of B2.out.one)
      | (go_at_call 100; refine (cloneOpens_any _ r.units _ (H.out.units.new (Hid.out (by assumption : Hid (Boxes w _ _ _))).new) (by have := G3.out; omega)).mono ?_; rintro e w3 ⟨p3, k3, rfl, c3, n3⟩; have B3 : Hid (Boxes w w3 _ _) := hid (Boxes.then (Hid.out (by assumption)) n3); have C3 := hid c3; have N3 := hid n3; clear c3 n3 ml fl; have ml := cells_of B3.out.one; have fl := frozen_of B3.out.one))
    all_goals
      have P3 := hid (B3.out.put3 (.slice p1 r.before.size k1) (.slice p2 r.after.size k2) (.slice p3 r.units.length k3))
      have hb := hid (copied_back C1.out C2.out C3.out N2.out N3.out B3.out (P3.out.2.mono (fun k _ e => Or.inl e)))
      go_wp2_with fail
      go_meet
      exact ⟨p1, k1, p2, k2, p3, k3, _, P3.out.1, hb.out.1⟩
  case rest =>
    obtain ⟨p1, k1, p2, k2, p3, k3, d, B3, hr⟩ := hcut
    have HB := hid B3
    have HR := hid hr
    clear ml fl B3 hr
    have ml := cells_of HB.out.one
    have m2 := cells_of HB.out.two
    have fl := frozen_of HB.out.two
    go_wp2
    have hs := set10 HB.out.two (.int .i64 r.kind) (.int .i64 r.unit) (.int .i64 r.page) (.int .i64 r.at_) (.slice p1 r.before.size k1) (.slice p2 r.after.size k2) (.int .i64 r.back) (.int .i64 r.next) (.string r.text) (.slice p3 r.units.length k3)
    (try simp only [Exit.inBlock, Exit.then])
    refine bodyPost_ret (cell_res rfl _ _ (w.heap.size + 1) 70 _ (0, 0) rfl hs.1 rfl) rfl ?_
    have h5 : Apart (fun k => k = w.heap.size + 1) wc := apart_of HB.out.two (by decide)
    have h90 : Apart90 (fun k => k = w.heap.size + 1) wc := fun k c fr hk hh => by subst hk; exact type_ne HB.out.two hh (by decide) rfl
    exact ⟨_, _, _, rfl, HR.out.turn hs.2 h5 h90, Below.trans HB.out.new (hs.2.below (fun k e => by omega) HB.out.new.size)⟩

end Go.Proofs.YtdccbceaajnajaaGreat

namespace Go.Proofs.YtdccbceaajnajaaGreat
open Go.RowKit
set_option linter.unusedSimpArgs false
set_option linter.unusedVariables false

theorem actA_of (A : ADisk) (h : actE A ≠ 0) : True := trivial

set_option maxHeartbeats 2000000 in
/-- No such block, or too many bytes. -/
theorem write_arg (b : Nat) (ow : Option Nat) (A : ADisk) (n : Int) (v : Value) (s : ByteArray) (w : World) (h : DiskAt w b ow A) (hv : Bytes w v s)
    (hn : (!isB n || decide (340 < s.size)) = true) :
    Calls Tryz.prog 59 #[.pointer (some ⟨b, 0, none⟩), .int .i64 n, v] w (DiskMoved b ow (.int .i64 2) A w) := by
  have hd0 := hid h
  obtain ⟨f, hr, hd⟩ := h
  have c0 := hr.cell 0 (by omega)
  rw [hd.made] at c0
  obtain ⟨p, c, rfl, g1, g2, _⟩ := hv
  unfold maxLen at g2
  clear hr hd
  cases hB : isB n with
  | false =>
    have HN := hid hn
    clear hn
    go_enter Tryz.func59, Tryz.ntmps59
    go_wp2_with fail
    refine (none_no b w c0).mono ?_
    rintro e w' ⟨rfl, rfl⟩
    go_wp2_with fail
    refine (isBlock_any _ _).mono ?_
    rintro e w' ⟨rfl, rfl⟩
    rw [hB]
    go_wp2
    go_ret
    exact ⟨rfl, ow, hd0.out, fun _ h => .inl h, Turn.refl _ _⟩
  | true =>
    have hs : (340 : Int) < (s.size : Int) := by simp [hB] at hn; omega
    have HN := hid hn
    clear hn
    go_enter Tryz.func59, Tryz.ntmps59
    go_wp2_with fail
    refine (none_no b w c0).mono ?_
    rintro e w' ⟨rfl, rfl⟩
    go_wp2_with fail
    refine (isBlock_any _ _).mono ?_
    rintro e w' ⟨rfl, rfl⟩
    rw [hB]
    go_wp2
    go_ret
    exact ⟨rfl, ow, hd0.out, fun _ h => .inl h, Turn.refl _ _⟩

set_option maxHeartbeats 2000000 in
/-- The disk is down, or the act is the armed one. -/
theorem write_down (b : Nat) (ow : Option Nat) (A : ADisk) (n : Int) (v : Value) (s : ByteArray) (w : World) (h : DiskAt w b ow A) (hv : Bytes w v s) (hb : A.falls ≤ 1000000000) (hb2 : A.acts ≤ 1000000000)
    (hn : isB n = true) (hs : s.size ≤ 340) (ha : actE A ≠ 0) :
    Calls Tryz.prog 59 #[.pointer (some ⟨b, 0, none⟩), .int .i64 n, v] w (DiskMoved b ow (.int .i64 (actE A)) (actA A) w) := by
  have hd0 := h
  obtain ⟨f, hr, hd⟩ := h
  have c0 := hr.cell 0 (by omega)
  rw [hd.made] at c0
  obtain ⟨p, c, rfl, g1, g2, _⟩ := hv
  unfold maxLen at g2
  clear hr hd
  have HD := hid hd0
  clear hd0
  go_enter Tryz.func59, Tryz.ntmps59
  go_wp2_with fail
  refine (none_no b w c0).mono ?_
  rintro e w' ⟨rfl, rfl⟩
  go_wp2_with fail
  refine (isBlock_any _ _).mono ?_
  rintro e w' ⟨rfl, rfl⟩
  go_wp2_with fail
  refine (act_any b ow A _ HD.out hb hb2).mono ?_
  rintro e w1 ⟨rfl, hd1, ht1⟩
  go_wp2
  go_ret
  exact ⟨rfl, ow, hd1, fun _ h => .inl h, ht1.mono (fun k _ h => .inl h)⟩

/-- Write, whatever is written. -/
theorem write_any (b : Nat) (ow : Option Nat) (A : ADisk) (n : Int) (v : Value) (s : ByteArray) (w : World) (h : DiskAt w b ow A) (hv : Bytes w v s) (hvb : 0 < s.size → ∀ k, v.ownBlock = some k → ¬ k = b) (hb : A.falls ≤ 1000000000) (hb2 : A.acts ≤ 1000000000) (hb3 : A.waits.length ≤ 1000000000) :
    Calls Tryz.prog 59 #[.pointer (some ⟨b, 0, none⟩), .int .i64 n, v] w (DiskMoved b ow (.int .i64 (writeE A n s)) (writeA A n s) w) := by
  cases hn : (!isB n || decide (340 < s.size)) with
  | true =>
    rw [show writeE A n s = 2 by unfold writeE; rw [hn]; rfl, show writeA A n s = A by unfold writeA; rw [hn]; rfl]
    exact write_arg b ow A n v s w h hv hn
  | false =>
    obtain ⟨h1, h2⟩ : isB n = true ∧ s.size ≤ 340 := by simpa using hn
    by_cases ha : actE A = 0
    · rw [show writeE A n s = 0 by unfold writeE; rw [hn]; exact ha]
      exact write_yes b ow A n v s w h hv hvb hb hb2 hb3 h1 h2 ha
    · rw [show writeE A n s = actE A by unfold writeE; rw [hn]; rfl, show writeA A n s = actA A by unfold writeA; rw [hn]; simp [ha]]
      exact write_down b ow A n v s w h hv hb hb2 h1 h2 ha

end Go.Proofs.YtdccbceaajnajaaGreat
