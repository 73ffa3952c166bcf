/- A record that is read from a reader, in memory: for tape.Decode and progenyref03.Decode. Rows of opens that grow, beside a reader and a record: for the two Decodes at a mark. -/
import Derived.Test.YtdccbceaajnajaaGreatT14
import Derived.Test.YtdccbceaajnajaaGreatT5
import Derived.Test.YtdccbceaajnajaaGreatT13
import Derived.Test.YtdccbceaajnajaaGreatD3
import Derived.Laws.IdiomStrings
import Derived.OwnWalk
import Derived.Deep.Onto
namespace Go.Proofs.YtdccbceaajnajaaGreat
open Go.RowKit
set_option linter.unusedSimpArgs false
set_option linter.unusedVariables false
set_option linter.unusedSectionVars false

/-- No block of S holds opens. -/
def Apart90 (S : Nat → Prop) (w : World) : Prop := ∀ k c fr, S k → w.heap[k]? ≠ some (.cells c 133 fr)
/-- Opens that lie in a block of opens of their own. -/
def OpensIn (w : World) (v : Value) (l : List Opn) : Prop := Opens w v l ∧ ∀ k, v.ownBlock = some k → ∃ c fr, w.heap[k]? = some (.cells c 133 fr)
theorem OpensIn.turn {S : Nat → Prop} {w w' : World} {v : Value} {l : List Opn} (h : OpensIn w v l) (ht : Turn S w w') (hS : Apart90 S w) : OpensIn w' v l := by
  obtain ⟨⟨p, c, rfl, h1, h2, h3⟩, h4⟩ := h
  have hk : ∀ k, (Value.slice p l.length c).ownBlock = some k → w'.heap[k]? = w.heap[k]? := fun k hk => by
    obtain ⟨cs, fr, e⟩ := h4 k hk
    exact ht.block k (Array.getElem?_eq_some_iff.1 e).1 (fun hs => hS k cs fr hs e)
  refine ⟨⟨p, c, rfl, h1, h2, fun h0 => ?_⟩, fun k hk' => ?_⟩
  · obtain ⟨b, o, rfl, hb, hc⟩ := h3 h0
    refine ⟨b, o, rfl, Nat.lt_of_lt_of_le hb ht.size, fun i hi => ?_⟩
    rw [World.cell?_of_block (w := w) (a := ⟨b, o + i, none⟩) (hk b rfl)]
    exact hc i hi
  · rw [hk k hk']; exact h4 k hk'
theorem OpensIn.nil (w : World) : OpensIn w (.slice none 0 0) [] := ⟨⟨Option.none, 0, rfl, Nat.le_refl _, by decide, fun h => absurd h (by decide)⟩, fun k hk => by simp [Value.ownBlock] at hk⟩
theorem apart90_none (w : World) : Apart90 (fun _ => False) w := fun _ _ _ h => h.elim
theorem OpensIn.own {w : World} {base : Nat} {v : Value} {l : List Opn} (h : w.ownsRow base 133 3 v l.length (opnVals l)) : OpensIn w v l := by
  refine ⟨RowAt.owned h, fun k hk => ?_⟩
  rcases h.2 with ⟨e, _⟩ | ⟨g, cap, cur, e, _, hh, _⟩
  · rw [e] at hk; simp [Value.ownBlock] at hk
  · rw [e] at hk
    simp only [Value.ownBlock, Option.some.injEq] at hk
    subst hk
    exact ⟨_, _, hh⟩
/-- The parts of a record, in blocks of their own kinds. -/
structure RecIn (w : World) (r : Rec) (bv av uv : Value) : Prop where
  before : Content w bv r.before
  after : Content w av r.after
  units : OpensIn w uv r.units
theorem RecIn.turn {S : Nat → Prop} {w w' : World} {r : Rec} {bv av uv : Value} (h : RecIn w r bv av uv) (ht : Turn S w w') (h5 : Apart S w) (h90 : Apart90 S w) : RecIn w' r bv av uv :=
  ⟨h.before.turn ht h5, h.after.turn ht h5, h.units.turn ht h90⟩
theorem RecIn.new {w w' : World} {r : Rec} {bv av uv : Value} (h : RecIn w r bv av uv) (hn : New w w') : RecIn w' r bv av uv := h.turn (S := fun _ => False) (Turn.of_new hn) (apart_none w) (apart90_none w)
theorem RecIn.at {w : World} {r : Rec} {bv av uv : Value} (h : RecIn w r bv av uv) : RecAt w r bv av uv := ⟨h.before.1, h.after.1, h.units.1⟩


/-- What is asked of a reader's word. -/
structure RdLaw (Rd : World → Nat → RS → Prop) (T : TypeId) : Prop where
  typed : ∀ {w : World} {x : Nat} {s : RS}, Rd w x s → ∃ c, w.heap[x]? = some (.cells c T (0, 0))
  turn : ∀ {S : Nat → Prop} {w w' : World} {x : Nat} {s : RS}, Rd w x s → Turn S w w' → ¬ S x → Apart S w → Rd w' x s
  n5 : T ≠ 5
  n25 : T ≠ 70
  n90 : T ≠ 133
theorem rdLaw : RdLaw RdAt 160 := ⟨fun ⟨_, _, h, _⟩ => ⟨_, h⟩, fun h ht hx hS => h.turn ht hx hS, by decide, by decide, by decide⟩
theorem qdLaw : RdLaw QdAt 113 := ⟨fun ⟨_, _, h, _⟩ => ⟨_, h⟩, fun h ht hx hS => h.turn ht hx hS, by decide, by decide, by decide⟩

theorem type_ne {w : World} {a b : Nat} {c d : Array Value} {t u : TypeId} {f g : Nat × Nat} (ha : w.heap[a]? = some (.cells c t f)) (hb : w.heap[b]? = some (.cells d u g)) (h : t ≠ u) : a ≠ b := by
  rintro rfl
  rw [ha] at hb
  injection hb with e
  injection e with _ e2 _
  exact h e2
theorem apart_of {w : World} {x : Nat} {c : Array Value} {t : TypeId} {f : Nat × Nat} (h : w.heap[x]? = some (.cells c t f)) (ht : t ≠ 5) : Apart (· = x) w := by
  intro k d g hk e
  subst hk
  exact type_ne h e ht rfl

/-- A record at block b whose parts lie in memory of one's own, a reader at x, other blocks F. -/
structure DS (Rd : World → Nat → RS → Prop) (F : List (Nat × Array Value × TypeId)) (w0 w : World) (b x : Nat) (r : Rec) (bv av uv : Value) (s : RS) : Prop where
  rc : w.heap[b]? = some (.cells (recCells r bv av uv) 70 (0, 0))
  rd : Rd w x s
  oth : ∀ p ∈ F, w.heap[p.1]? = some (.cells p.2.1 p.2.2 (0, 0)) ∧ p.1 ≠ b ∧ p.1 ≠ x ∧ p.2.2 ≠ 133
  bef : Content w bv r.before
  aft : Content w av r.after
  un : w.ownsRow w0.heap.size 133 3 uv r.units.length (opnVals r.units)
  new : New w0 w
  hb : w0.heap.size ≤ b
  hx : w0.heap.size ≤ x

section
variable {Rd : World → Nat → RS → Prop} {T : TypeId} (L : RdLaw Rd T) {F : List (Nat × Array Value × TypeId)} {w0 w w' : World} {b x : Nat} {r : Rec} {bv av uv : Value} {s : RS}
include L

theorem DS.ne (h : DS Rd F w0 w b x r bv av uv s) : b ≠ x := by
  obtain ⟨c, hc⟩ := L.typed h.rd
  exact type_ne h.rc hc (fun e => L.n25 e.symm)
theorem DS.turn {S : Nat → Prop} (h : DS Rd F w0 w b x r bv av uv s) (ht : Turn S w w') (hb : ¬ S b) (hx : ¬ S x) (hF : ∀ p ∈ F, ¬ S p.1) (hA : Apart S w) (hu : ∀ k, uv.ownBlock = some k → ¬ S k) (hn : ∀ k, S k → w0.heap.size ≤ k) :
    DS Rd F w0 w' b x r bv av uv s :=
  ⟨by rw [ht.block b (Array.getElem?_eq_some_iff.1 h.rc).1 hb]; exact h.rc, L.turn h.rd ht hx hA,
   fun p hp => by
    obtain ⟨h1, h2⟩ := h.oth p hp
    exact ⟨by rw [ht.block p.1 (Array.getElem?_eq_some_iff.1 h1).1 (hF p hp)]; exact h1, h2⟩,
   h.bef.turn ht hA, h.aft.turn ht hA, own_turn h.un ht hu, Below.trans h.new (ht.below hn h.new.size), h.hb, h.hx⟩
theorem DS.newer (h : DS Rd F w0 w b x r bv av uv s) (hn : New w w') : DS Rd F w0 w' b x r bv av uv s :=
  h.turn L (S := fun _ => False) (Turn.of_new hn) (fun h => h) (fun h => h) (fun _ _ h => h) (apart_none w) (fun _ _ h => h) (fun _ h => h.elim)
/-- A read. -/
theorem DS.read {s' : RS} (h : DS Rd F w0 w b x r bv av uv s) (hr : Rd w' x s') (ht : Turn (· = x) w w') : DS Rd F w0 w' b x r bv av uv s' := by
  obtain ⟨c, hc⟩ := L.typed h.rd
  have hA := apart_of hc L.n5
  exact ⟨by rw [ht.block b (Array.getElem?_eq_some_iff.1 h.rc).1 (h.ne L)]; exact h.rc, hr,
   fun p hp => by
    obtain ⟨h1, h2⟩ := h.oth p hp
    exact ⟨by rw [ht.block p.1 (Array.getElem?_eq_some_iff.1 h1).1 h2.2.1]; exact h1, h2⟩,
   h.bef.turn ht hA, h.aft.turn ht hA, own_turn h.un ht (fun k hk e => own_ne h.un hc L.n90 (e ▸ hk)), Below.trans h.new (ht.below (fun k e => e ▸ h.hx) h.new.size), h.hb, h.hx⟩
/-- A cell of the record is laid. -/
theorem DS.put (h : DS Rd F w0 w b x r bv av uv s) (i : Nat) (u : Value) (r' : Rec) (bv' av' uv' : Value) (he : (recCells r bv av uv).setIfInBounds i u = recCells r' bv' av' uv') (hb' : Content w bv' r'.before) (ha' : Content w av' r'.after)
    (hu' : w.ownsRow w0.heap.size 133 3 uv' r'.units.length (opnVals r'.units)) : DS Rd F w0 (w.setCell ⟨b, i, none⟩ u) b x r' bv' av' uv' s := by
  have ht : Turn (· = b) w (w.setCell ⟨b, i, none⟩ u) := Turn.setCell (S := (· = b)) (p := ⟨b, i, none⟩) (Turn.refl _ w) rfl u
  have hA := apart_of h.rc (by decide)
  refine ⟨?_, L.turn h.rd ht (fun e => h.ne L e.symm) hA, fun p hp => ?_, hb'.turn ht hA, ha'.turn ht hA, own_turn hu' ht (fun k hk e => own_ne hu' h.rc (by decide) (e ▸ hk)), Below.trans h.new (ht.below (fun k e => e ▸ h.hb) h.new.size), h.hb, h.hx⟩
  · rw [← he]; exact heap_setCell_same w b i _ 70 u h.rc
  · obtain ⟨h1, h2⟩ := h.oth p hp
    exact ⟨by rw [ht.block p.1 (Array.getElem?_eq_some_iff.1 h1).1 h2.1]; exact h1, h2⟩
theorem DS.more (h : DS Rd F w0 w b x r bv av uv s) (p : Nat × Array Value × TypeId) (hp : w.heap[p.1]? = some (.cells p.2.1 p.2.2 (0, 0)) ∧ p.1 ≠ b ∧ p.1 ≠ x ∧ p.2.2 ≠ 133) : DS Rd (p :: F) w0 w b x r bv av uv s :=
  ⟨h.rc, h.rd, fun q hq => by
    rcases List.mem_cons.1 hq with rfl | hq
    · exact hp
    · exact h.oth q hq, h.bef, h.aft, h.un, h.new, h.hb, h.hx⟩
theorem DS.start (hn : New (w0.alloc (.cells (recCells rec0 (.slice none 0 0) (.slice none 0 0) (.slice none 0 0)) 70)) w) (hr : Rd w x s) (hx : w0.heap.size ≤ x) : DS Rd [] w0 w w0.heap.size x rec0 (.slice none 0 0) (.slice none 0 0) (.slice none 0 0) s :=
  ⟨by rw [Below.block hn _ (by simp)]; exact heap_alloc_new w0 _, hr, fun p hp => (by cases hp), Content.nil w, Content.nil w, World.ownsRow_nil _ _ _ _, ((New.refl w0).alloc _ _).trans hn, Nat.le_refl _, hx⟩
theorem DS.kind (h : DS Rd F w0 w b x r bv av uv s) (k : Int) : DS Rd F w0 (w.setCell ⟨b, 0, none⟩ (.int .i64 k)) b x { r with kind := k } bv av uv s := h.put L 0 _ _ _ _ _ rfl h.bef h.aft h.un
theorem DS.unit (h : DS Rd F w0 w b x r bv av uv s) (k : Int) : DS Rd F w0 (w.setCell ⟨b, 1, none⟩ (.int .i64 k)) b x { r with unit := k } bv av uv s := h.put L 1 _ _ _ _ _ rfl h.bef h.aft h.un
theorem DS.page (h : DS Rd F w0 w b x r bv av uv s) (k : Int) : DS Rd F w0 (w.setCell ⟨b, 2, none⟩ (.int .i64 k)) b x { r with page := k } bv av uv s := h.put L 2 _ _ _ _ _ rfl h.bef h.aft h.un
theorem DS.at_ (h : DS Rd F w0 w b x r bv av uv s) (k : Int) : DS Rd F w0 (w.setCell ⟨b, 3, none⟩ (.int .i64 k)) b x { r with at_ := k } bv av uv s := h.put L 3 _ _ _ _ _ rfl h.bef h.aft h.un
theorem DS.before (h : DS Rd F w0 w b x r bv av uv s) (v : Value) (t : ByteArray) (hc : Content w v t) : DS Rd F w0 (w.setCell ⟨b, 4, none⟩ v) b x { r with before := t } v av uv s := h.put L 4 _ _ _ _ _ rfl hc h.aft h.un
theorem DS.after (h : DS Rd F w0 w b x r bv av uv s) (v : Value) (t : ByteArray) (hc : Content w v t) : DS Rd F w0 (w.setCell ⟨b, 5, none⟩ v) b x { r with after := t } bv v uv s := h.put L 5 _ _ _ _ _ rfl h.bef hc h.un
theorem DS.back (h : DS Rd F w0 w b x r bv av uv s) (k : Int) : DS Rd F w0 (w.setCell ⟨b, 6, none⟩ (.int .i64 k)) b x { r with back := k } bv av uv s := h.put L 6 _ _ _ _ _ rfl h.bef h.aft h.un
theorem DS.next (h : DS Rd F w0 w b x r bv av uv s) (k : Int) : DS Rd F w0 (w.setCell ⟨b, 7, none⟩ (.int .i64 k)) b x { r with next := k } bv av uv s := h.put L 7 _ _ _ _ _ rfl h.bef h.aft h.un
theorem DS.text (h : DS Rd F w0 w b x r bv av uv s) (t : ByteArray) : DS Rd F w0 (w.setCell ⟨b, 8, none⟩ (.string t)) b x { r with text := t } bv av uv s := h.put L 8 _ _ _ _ _ rfl h.bef h.aft h.un
omit L
theorem DS.cells (h : DS Rd F w0 w b x r bv av uv s) : ∀ o, w.cell? ⟨b, o, none⟩ = (recCells r bv av uv)[o]? := cells_of h.rc
theorem frozen_of {w : World} {k : Nat} {c : Array Value} {t : TypeId} (h : w.heap[k]? = some (.cells c t (0, 0))) : ∀ o, w.frozen? ⟨k, o, none⟩ = false := by
  intro o
  simp only [World.frozen?, h]; simp
theorem DS.frozen (h : DS Rd F w0 w b x r bv av uv s) : ∀ o, w.frozen? ⟨b, o, none⟩ = false := frozen_of h.rc
theorem DS.other (h : DS Rd F w0 w b x r bv av uv s) (p : Nat × Array Value × TypeId) (hp : p ∈ F) : ∀ o, w.cell? ⟨p.1, o, none⟩ = p.2.1[o]? := cells_of (h.oth p hp).1
theorem DS.at (h : DS Rd F w0 w b x r bv av uv s) : RecAt w r bv av uv := ⟨h.bef.1, h.aft.1, RowAt.owned h.un⟩
end

/-- []byte(s). -/
theorem conv_made (w : World) (s : ByteArray) (hs : s.size ≤ 1000000) : ∃ (p : Option Addr) (n c : Nat) (w' : World), (Go.convert 9 29 (.string s)).run Tryz.prog w = .ok (.slice p n c) w' ∧ Content w' (.slice p n c) s ∧ New w w' := by
  refine ⟨_, _, _, _, run_bytes_of_string w 9 29 5 s Tryz.underlying9 Tryz.underlying29 Tryz.underlying5, ?_, (New.refl w).drew.trans (Below.alloc (Below.refl _ _) (Nat.le_refl _) _)⟩
  have h1 := grownCap_ge w s.size 0 5
  have h2 := grownCap_le_maxLen w s.size 0 5 (by unfold maxLen; omega)
  have hh : (w.drew.alloc (.cells (bytesRow s (grownCap w s.size 0 5)) 5 ((bytesRow s (grownCap w s.size 0 5)).size, (bytesRow s (grownCap w s.size 0 5)).size + 1))).heap[w.heap.size]? = some (.cells (bytesRow s (grownCap w s.size 0 5)) 5 ((bytesRow s (grownCap w s.size 0 5)).size, (bytesRow s (grownCap w s.size 0 5)).size + 1)) := heap_alloc_new w.drew _
  refine ⟨⟨_, _, rfl, h1, h2, fun h0 => ⟨_, 0, rfl, by simp, fun i hi => ?_⟩⟩, fun k hk => ?_⟩
  · rw [byteVals_length] at hi
    rw [Nat.zero_add, byteVals_getD s i hi]
    simp only [World.cell?, hh]
    exact bytesRow_at s _ i hi
  · simp only [Value.ownBlock, Option.some.injEq] at hk
    subst hk
    exact ⟨_, _, hh⟩

theorem tmp_cell_tmp_res {fn : Func} {q p u : Tmp} (h : fn.results = #[.tmp q, .cell p 70, .tmp u]) (tmps : Array Value) (w : World) (g : Nat) (t : TypeId) (cs : Array Value) (fr : Nat × Nat)
    (hp : tmps.getD p undef = .pointer (some ⟨g, 0, none⟩)) (hg : w.heap[g]? = some (.cells cs t fr)) (hi : cs.size = 10) :
    (results fn tmps).run Tryz.prog w = .ok (.tuple #[tmps.getD q undef, .agg cs, tmps.getD u undef]) w := by
  have hp' : tmps[p]?.getD undef = .pointer (some ⟨g, 0, none⟩) := by simpa using hp
  have e := run_loadVar_row w g t 70 cs fr _ hg Tryz.underlying70 rfl (by rw [hi]; exact size25)
  simp only [results, h]
  simp [hp', asAddr, e, Sem.run_bind, Result.andThen]

/-- All cells of a record laid anew. -/
theorem set10 {w : World} {b : Nat} {c0 c1 c2 c3 c4 c5 c6 c7 c8 c9 : Value} (h : w.heap[b]? = some (.cells #[c0, c1, c2, c3, c4, c5, c6, c7, c8, c9] 70 (0, 0))) (u0 u1 u2 u3 u4 u5 u6 u7 u8 u9 : Value) :
    ((((((((((w.setCell ⟨b, 0, none⟩ u0).setCell ⟨b, 1, none⟩ u1).setCell ⟨b, 2, none⟩ u2).setCell ⟨b, 3, none⟩ u3).setCell ⟨b, 4, none⟩ u4).setCell ⟨b, 5, none⟩ u5).setCell ⟨b, 6, none⟩ u6).setCell ⟨b, 7, none⟩ u7).setCell ⟨b, 8, none⟩ u8).setCell ⟨b, 9, none⟩ u9).heap[b]? = some (.cells #[u0, u1, u2, u3, u4, u5, u6, u7, u8, u9] 70 (0, 0)) ∧
    Turn (· = b) w ((((((((((w.setCell ⟨b, 0, none⟩ u0).setCell ⟨b, 1, none⟩ u1).setCell ⟨b, 2, none⟩ u2).setCell ⟨b, 3, none⟩ u3).setCell ⟨b, 4, none⟩ u4).setCell ⟨b, 5, none⟩ u5).setCell ⟨b, 6, none⟩ u6).setCell ⟨b, 7, none⟩ u7).setCell ⟨b, 8, none⟩ u8).setCell ⟨b, 9, none⟩ u9) := by
  have h0 : (w.setCell ⟨b, 0, none⟩ u0).heap[b]? = some (.cells #[u0, c1, c2, c3, c4, c5, c6, c7, c8, c9] 70 (0, 0)) := heap_setCell_same _ b 0 _ 70 u0 h
  have h1 : ((w.setCell ⟨b, 0, none⟩ u0).setCell ⟨b, 1, none⟩ u1).heap[b]? = some (.cells #[u0, u1, c2, c3, c4, c5, c6, c7, c8, c9] 70 (0, 0)) := heap_setCell_same _ b 1 _ 70 u1 h0
  have h2 : (((w.setCell ⟨b, 0, none⟩ u0).setCell ⟨b, 1, none⟩ u1).setCell ⟨b, 2, none⟩ u2).heap[b]? = some (.cells #[u0, u1, u2, c3, c4, c5, c6, c7, c8, c9] 70 (0, 0)) := heap_setCell_same _ b 2 _ 70 u2 h1
  have h3 : ((((w.setCell ⟨b, 0, none⟩ u0).setCell ⟨b, 1, none⟩ u1).setCell ⟨b, 2, none⟩ u2).setCell ⟨b, 3, none⟩ u3).heap[b]? = some (.cells #[u0, u1, u2, u3, c4, c5, c6, c7, c8, c9] 70 (0, 0)) := heap_setCell_same _ b 3 _ 70 u3 h2
  have h4 : (((((w.setCell ⟨b, 0, none⟩ u0).setCell ⟨b, 1, none⟩ u1).setCell ⟨b, 2, none⟩ u2).setCell ⟨b, 3, none⟩ u3).setCell ⟨b, 4, none⟩ u4).heap[b]? = some (.cells #[u0, u1, u2, u3, u4, c5, c6, c7, c8, c9] 70 (0, 0)) := heap_setCell_same _ b 4 _ 70 u4 h3
  have h5 : ((((((w.setCell ⟨b, 0, none⟩ u0).setCell ⟨b, 1, none⟩ u1).setCell ⟨b, 2, none⟩ u2).setCell ⟨b, 3, none⟩ u3).setCell ⟨b, 4, none⟩ u4).setCell ⟨b, 5, none⟩ u5).heap[b]? = some (.cells #[u0, u1, u2, u3, u4, u5, c6, c7, c8, c9] 70 (0, 0)) := heap_setCell_same _ b 5 _ 70 u5 h4
  have h6 : (((((((w.setCell ⟨b, 0, none⟩ u0).setCell ⟨b, 1, none⟩ u1).setCell ⟨b, 2, none⟩ u2).setCell ⟨b, 3, none⟩ u3).setCell ⟨b, 4, none⟩ u4).setCell ⟨b, 5, none⟩ u5).setCell ⟨b, 6, none⟩ u6).heap[b]? = some (.cells #[u0, u1, u2, u3, u4, u5, u6, c7, c8, c9] 70 (0, 0)) := heap_setCell_same _ b 6 _ 70 u6 h5
  have h7 : ((((((((w.setCell ⟨b, 0, none⟩ u0).setCell ⟨b, 1, none⟩ u1).setCell ⟨b, 2, none⟩ u2).setCell ⟨b, 3, none⟩ u3).setCell ⟨b, 4, none⟩ u4).setCell ⟨b, 5, none⟩ u5).setCell ⟨b, 6, none⟩ u6).setCell ⟨b, 7, none⟩ u7).heap[b]? = some (.cells #[u0, u1, u2, u3, u4, u5, u6, u7, c8, c9] 70 (0, 0)) := heap_setCell_same _ b 7 _ 70 u7 h6
  have h8 : (((((((((w.setCell ⟨b, 0, none⟩ u0).setCell ⟨b, 1, none⟩ u1).setCell ⟨b, 2, none⟩ u2).setCell ⟨b, 3, none⟩ u3).setCell ⟨b, 4, none⟩ u4).setCell ⟨b, 5, none⟩ u5).setCell ⟨b, 6, none⟩ u6).setCell ⟨b, 7, none⟩ u7).setCell ⟨b, 8, none⟩ u8).heap[b]? = some (.cells #[u0, u1, u2, u3, u4, u5, u6, u7, u8, c9] 70 (0, 0)) := heap_setCell_same _ b 8 _ 70 u8 h7
  have h9 : ((((((((((w.setCell ⟨b, 0, none⟩ u0).setCell ⟨b, 1, none⟩ u1).setCell ⟨b, 2, none⟩ u2).setCell ⟨b, 3, none⟩ u3).setCell ⟨b, 4, none⟩ u4).setCell ⟨b, 5, none⟩ u5).setCell ⟨b, 6, none⟩ u6).setCell ⟨b, 7, none⟩ u7).setCell ⟨b, 8, none⟩ u8).setCell ⟨b, 9, none⟩ u9).heap[b]? = some (.cells #[u0, u1, u2, u3, u4, u5, u6, u7, u8, u9] 70 (0, 0)) := heap_setCell_same _ b 9 _ 70 u9 h8
  refine ⟨h9, ?_⟩
  have t0 := turn_set w b 0 u0
  have t1 := t0.trans (turn_set _ b 1 u1)
  have t2 := t1.trans (turn_set _ b 2 u2)
  have t3 := t2.trans (turn_set _ b 3 u3)
  have t4 := t3.trans (turn_set _ b 4 u4)
  have t5 := t4.trans (turn_set _ b 5 u5)
  have t6 := t5.trans (turn_set _ b 6 u6)
  have t7 := t6.trans (turn_set _ b 7 u7)
  have t8 := t7.trans (turn_set _ b 8 u8)
  exact t8.trans (turn_set _ b 9 u9)
theorem DS.last {Rd : World → Nat → RS → Prop} {F : List (Nat × Array Value × TypeId)} {w0 w w' : World} {b x : Nat} {r : Rec} {bv av uv : Value} {s : RS} (h : DS Rd F w0 w b x r bv av uv s) (ht : Turn (· = b) w w') : RecIn w' r bv av uv ∧ New w0 w' := by
  have hA := apart_of h.rc (by decide)
  exact ⟨⟨h.bef.turn ht hA, h.aft.turn ht hA, OpensIn.own (own_turn h.un ht (fun k hk e => own_ne h.un h.rc (by decide) (e ▸ hk)))⟩, Below.trans h.new (ht.below (fun k e => e ▸ h.hb) h.new.size)⟩

end Go.Proofs.YtdccbceaajnajaaGreat

namespace Go.Proofs.YtdccbceaajnajaaGreat
open Go.RowKit
set_option linter.unusedSimpArgs false
set_option linter.unusedVariables false
set_option linter.unusedSectionVars false


theorem info90 : (Tryz.prog.info? 133).map (fun i => (i.zero, i.size, i.bytes)) = some (some (.agg #[.int .i64 0, .int .i64 0, .string ByteArray.empty]), 3, 32) := by kernel_rfl

set_option maxRecDepth 10000 in
/-- append(row, u): one open. -/
theorem app_opens {ops : Array Oper} {rest : List Oper} {o : Oper} {a : Act} {w : World} {Q : Exit → Act → World → Prop} (hgd : o.guard = none) (sl x : Operand)
    (ho : o.op = .call { callee := .builtin .append, args := #[sl, x], argTypes := #[68, 68] }) (base : Nat)
    (v : Value) (n : Nat) (xs : List Value) (hs : a.eval sl = v) (hown : w.ownsRow base 133 3 v n xs) (q : Addr) (u0 u1 : Int) (u2 : ByteArray) (hx : a.eval x = .slice (some q) 1 1)
    (hn0 : w.cell? q = some (.int .i64 u0)) (hn1 : w.cell? (q.add 1) = some (.int .i64 u1)) (hn2 : w.cell? (q.add 2) = some (.string u2)) (hb : n + 1 ≤ 1000000) (hbase : base ≤ w.heap.size)
    (h : ∀ v' w', w'.ownsRow base 133 3 v' (n + 1) (xs ++ [.int .i64 u0, .int .i64 u1, .string u2]) → w.grownBy w' v.ownBlock → (v'.ownBlock = v.ownBlock ∨ v'.ownBlock = some w.heap.size) → wpList Tryz.prog ops Q rest (a.put o.dst v') w') : wpList Tryz.prog ops Q (o :: rest) a w := by
  obtain ⟨i0, hi, hz0, hz1, hz2⟩ := info_parts info90
  exact wpList_append_own_at w hgd sl x 68 ho base 133 i0 _ 3 32 Tryz.underlying68 hi hz0 hz1 hz2 rfl (by decide) v n xs hs hown q 1 1 [.int .i64 u0, .int .i64 u1, .string u2] hx rfl
    (fun j u hj => by
      match j with
      | 0 => simp at hj; subst hj; rw [show q.add 0 = q by simp [Addr.add]]; exact hn0
      | 1 => simp at hj; subst hj; exact hn1
      | 2 => simp at hj; subst hj; exact hn2
      | j + 3 => simp at hj) (fun u hu => by simp at hu; rcases hu with rfl | rfl | rfl <;> rfl) (by unfold maxLen; omega) (by omega) hbase fun v' w' h1 h2 _ h4 => h v' w' h1 h2 h4

theorem rdOpens_snoc : ∀ (k : Nat) (s : RS), rdOpens (k + 1) s = ((rdOpens k s).1 ++ [⟨(rdNum (rdOpens k s).2).1, (rdNum (rdNum (rdOpens k s).2).2).1, (rdText (rdNum (rdNum (rdOpens k s).2).2).2).1⟩], (rdText (rdNum (rdNum (rdOpens k s).2).2).2).2) := by
  intro k
  induction k with
  | zero => intro s; simp [rdOpens]
  | succ k ih =>
    intro s
    have e1 : rdOpens (k + 1 + 1) s = (⟨(rdNum s).1, (rdNum (rdNum s).2).1, (rdText (rdNum (rdNum s).2).2).1⟩ :: (rdOpens (k + 1) (rdText (rdNum (rdNum s).2).2).2).1, (rdOpens (k + 1) (rdText (rdNum (rdNum s).2).2).2).2) := rfl
    have e2 : rdOpens (k + 1) s = (⟨(rdNum s).1, (rdNum (rdNum s).2).1, (rdText (rdNum (rdNum s).2).2).1⟩ :: (rdOpens k (rdText (rdNum (rdNum s).2).2).2).1, (rdOpens k (rdText (rdNum (rdNum s).2).2).2).2) := rfl
    rw [e1, ih, e2]
    simp
theorem rdOpens_length : ∀ (k : Nat) (s : RS), (rdOpens k s).1.length = k
  | 0, _ => rfl
  | k + 1, s => by
    have e2 : rdOpens (k + 1) s = (⟨(rdNum s).1, (rdNum (rdNum s).2).1, (rdText (rdNum (rdNum s).2).2).1⟩ :: (rdOpens k (rdText (rdNum (rdNum s).2).2).2).1, (rdOpens k (rdText (rdNum (rdNum s).2).2).2).2) := rfl
    rw [e2, List.length_cons, rdOpens_length k]
theorem rdOpens_next {k : Nat} {s s1 s2 s3 : RS} {a b : Int} {t : ByteArray} (h1 : rdNum (rdOpens k s).2 = (a, s1)) (h2 : rdNum s1 = (b, s2)) (h3 : rdText s2 = (t, s3)) : rdOpens (k + 1) s = ((rdOpens k s).1 ++ [⟨a, b, t⟩], s3) := by
  rw [rdOpens_snoc, h1, h2, h3]

/-- As DS, and a block of one open beside it. -/
structure DU (Rd : World → Nat → RS → Prop) (F : List (Nat × Array Value × TypeId)) (w0 w : World) (b x : Nat) (r : Rec) (bv av uv : Value) (s : RS) (ub : Nat) (c : Array Value) : Prop where
  ds : DS Rd F w0 w b x r bv av uv s
  u : w.heap[ub]? = some (.cells c 133 (0, 0))
  ne : uv.ownBlock ≠ some ub
  hub : w0.heap.size ≤ ub
section
variable {Rd : World → Nat → RS → Prop} {T : TypeId} (L : RdLaw Rd T) {F : List (Nat × Array Value × TypeId)} {w0 w w' : World} {b x : Nat} {r : Rec} {bv av uv : Value} {s : RS} {ub : Nat} {c : Array Value}
include L
theorem DU.start (h : DS Rd F w0 w b x r bv av uv s) (c : Array Value) : DU Rd F w0 (w.alloc (.cells c 133)) b x r bv av uv s w.heap.size c :=
  ⟨h.newer L ((New.refl w).alloc c 133), heap_alloc_new w _, fun e => by
    have := h.un
    rcases this.2 with ⟨e2, _⟩ | ⟨g, cap, cur, e2, hg, hh, rr⟩
    · rw [e2] at e; simp [Value.ownBlock] at e
    · rw [e2] at e; simp only [Value.ownBlock, Option.some.injEq] at e; subst e
      have := (Array.getElem?_eq_some_iff.1 hh).1
      omega, h.new.size⟩
theorem DU.read {s' : RS} (h : DU Rd F w0 w b x r bv av uv s ub c) (hr : Rd w' x s') (ht : Turn (· = x) w w') : DU Rd F w0 w' b x r bv av uv s' ub c := by
  obtain ⟨d, hd⟩ := L.typed h.ds.rd
  exact ⟨h.ds.read L hr ht, by rw [ht.block ub (Array.getElem?_eq_some_iff.1 h.u).1 (type_ne h.u hd (fun e => L.n90 e.symm))]; exact h.u, h.ne, h.hub⟩
theorem DU.put (h : DU Rd F w0 w b x r bv av uv s ub c) (i : Nat) (v : Value) (c' : Array Value) (hc : c.setIfInBounds i v = c') : DU Rd F w0 (w.setCell ⟨ub, i, none⟩ v) b x r bv av uv s ub c' := by
  subst hc
  have ht : Turn (· = ub) w (w.setCell ⟨ub, i, none⟩ v) := Turn.setCell (S := (· = ub)) (p := ⟨ub, i, none⟩) (Turn.refl _ w) rfl v
  obtain ⟨d, hd⟩ := L.typed h.ds.rd
  refine ⟨h.ds.turn L ht (fun e => type_ne h.ds.rc h.u (by decide) e) (fun e => type_ne hd h.u L.n90 e) (fun p hp e => ?_) (apart_of h.u (by decide)) (fun k hk e => h.ne (e ▸ hk)) (fun k e => e ▸ h.hub), heap_setCell_same w ub i c 133 v h.u, h.ne, h.hub⟩
  obtain ⟨h1, h2⟩ := h.ds.oth p hp
  exact type_ne h1 h.u h2.2.2 e
/-- The record's row has one more. -/
theorem DS.grow (h : DS Rd F w0 w b x r bv av uv s) {w1 w2 : World} (hn : New w w1) {v' : Value} {a d : Int} {t : ByteArray} (hown : w2.ownsRow w0.heap.size 133 3 v' (r.units.length + 1) (opnVals r.units ++ [.int .i64 a, .int .i64 d, .string t]))
    (hg : w1.grownBy w2 uv.ownBlock) (r' : Rec) (hr' : r' = { r with units := r.units ++ [⟨a, d, t⟩] }) : DS Rd F w0 (w2.setCell ⟨b, 9, none⟩ v') b x r' bv av v' s := by
  subst hr'
  have h1 := h.newer L hn
  have ht : Turn (fun k => uv.ownBlock = some k) w1 w2 := Turn.grown (Turn.refl _ w1) hg (fun k _ e => e)
  have hA := apart_own h1.un (show (133 : TypeId) ≠ 5 by decide)
  obtain ⟨d', hd⟩ := L.typed h1.rd
  have e1 : w2.heap[b]? = some (.cells (recCells r bv av uv) 70 (0, 0)) := by
    rw [ht.block b (Array.getElem?_eq_some_iff.1 h1.rc).1 (own_ne h1.un h1.rc (by decide))]; exact h1.rc
  have hx : ¬ (uv.ownBlock = some x) := own_ne h1.un hd L.n90
  have h2 : Turn (· = b) w2 (w2.setCell ⟨b, 9, none⟩ v') := turn_set w2 b 9 v'
  have hA2 := apart_of e1 (by decide)
  have hrd : Rd w2 x s := L.turn h1.rd ht hx hA
  have ho : w2.ownsRow w0.heap.size 133 3 v' ({ r with units := r.units ++ [⟨a, d, t⟩] } : Rec).units.length (opnVals ({ r with units := r.units ++ [⟨a, d, t⟩] } : Rec).units) := by
    have e : opnVals (r.units ++ ([⟨a, d, t⟩] : List Opn)) = opnVals r.units ++ [.int .i64 a, .int .i64 d, .string t] := by simp [opnVals]
    show w2.ownsRow w0.heap.size 133 3 v' (r.units ++ ([⟨a, d, t⟩] : List Opn)).length (opnVals (r.units ++ ([⟨a, d, t⟩] : List Opn)))
    rw [e, List.length_append]; exact hown
  refine ⟨heap_setCell_same w2 b 9 _ 70 v' e1, L.turn hrd h2 (fun e => h1.ne L e.symm) hA2, fun p hp => ?_, (h1.bef.turn ht hA).turn h2 hA2, (h1.aft.turn ht hA).turn h2 hA2, own_turn ho h2 (fun k hk e => own_ne ho e1 (by decide) (e ▸ hk)), ?_, h.hb, h.hx⟩
  · obtain ⟨q1, q2⟩ := h1.oth p hp
    refine ⟨?_, q2⟩
    have e3 : w2.heap[p.1]? = some (.cells p.2.1 p.2.2 (0, 0)) := by rw [ht.block p.1 (Array.getElem?_eq_some_iff.1 q1).1 (own_ne h1.un q1 q2.2.2)]; exact q1
    rw [h2.block p.1 (Array.getElem?_eq_some_iff.1 e3).1 q2.1]; exact e3
  · exact (Below.trans h1.new (ht.below (fun k e => own_from h1.un k e) h1.new.size)).trans (h2.below (fun k e => e ▸ h.hb) (Nat.le_trans h1.new.size ht.size))
omit L
theorem DU.ucells (h : DU Rd F w0 w b x r bv av uv s ub c) : ∀ o, w.cell? ⟨ub, o, none⟩ = c[o]? := cells_of h.u
theorem DU.ufrozen (h : DU Rd F w0 w b x r bv av uv s ub c) : ∀ o, w.frozen? ⟨ub, o, none⟩ = false := frozen_of h.u
end

end Go.Proofs.YtdccbceaajnajaaGreat
