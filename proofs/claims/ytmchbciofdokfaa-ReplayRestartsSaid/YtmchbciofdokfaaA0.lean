/- Words for what lies in memory (rows, bytes, records) and small lemmas on worlds: no function is spoken of. -/
import Derived.WalkKit
import Derived.WalkSpells
import Derived.WalkLawsBesides
import Derived.Laws.BytesArg
namespace Go.Proofs.Ytmchbciofdokfaa
open Go.RowKit

theorem hid {p : Prop} (h : p) : Hid p := h
theorem ret_bool {a b : Bool} (h : a = b) : Ending.returned (.bool a) = .returned (.bool b) := by rw [h]
theorem ret_int {k : IntKind} {a b : Int} (h : a = b) : Ending.returned (.int k a) = .returned (.int k b) := by rw [h]

theorem str_beq (s t : ByteArray) : (s.toList == t.toList) = decide (s = t) := by
  rw [ByteArray.toList_eq, ByteArray.toList_eq, Bool.eq_iff_iff]
  simp only [beq_iff_eq, decide_eq_true_eq]
  exact ⟨fun h => ByteArray.ext (Array.ext' h), fun h => by rw [h]⟩

theorem str_eq {s t : ByteArray} (h : s.toList = t.toList) : s = t := by
  rw [ByteArray.toList_eq, ByteArray.toList_eq] at h
  exact ByteArray.ext (Array.ext' h)
theorem toList_nil {s : ByteArray} : s.toList = [] ↔ s.size = 0 := by
  rw [ByteArray.toList_eq, List.eq_nil_iff_length_eq_zero]
  simp only [Array.length_toList, ByteArray.size]
theorem eq_upto {α : Type} {l m : List α} (hl : l.length = m.length) (h : ∀ i, i < l.length → l[i]? = m[i]?) : l = m := by
  apply List.ext_getElem? 
  intro i
  rcases Nat.lt_or_ge i l.length with hi | hi
  · exact h i hi
  · rw [List.getElem?_eq_none hi, List.getElem?_eq_none (by omega)]

/-- Nothing that was there has turned. -/
def New (w w' : World) : Prop := Below w.heap.size w w'
theorem New.refl (w : World) : New w w := Below.refl _ _
theorem New.size {w w' : World} (h : New w w') : w.heap.size ≤ w'.heap.size := Below.size h
theorem New.trans {a b c : World} (h : New a b) (k : New b c) : New a c := Below.trans h (Below.mono k h.size)
theorem New.drew {a w : World} (h : New a w) : New a w.drew := Below.drew h
theorem New.cell {w w' : World} (h : New w w') (b o : Nat) (hb : b < w.heap.size) : w'.cell? ⟨b, o, none⟩ = w.cell? ⟨b, o, none⟩ := Below.cell h (p := ⟨b, o, none⟩) hb

theorem bcell {W w1 : World} (hb : New W w1) : (∀ b o, b < W.heap.size → w1.cell? ⟨b, o, none⟩ = W.cell? ⟨b, o, none⟩) ∧ (∀ b o, b < W.heap.size → w1.frozen? ⟨b, o, none⟩ = W.frozen? ⟨b, o, none⟩) :=
  ⟨fun b o h => Below.cell hb (p := ⟨b, o, none⟩) h, fun b o h => Below.frozen hb (p := ⟨b, o, none⟩) h⟩

/-- A list of values that lies in memory: the slice v of n elements. -/
def RowAt (w : World) (v : Value) (n : Nat) (xs : List Value) : Prop :=
  ∃ p c, v = .slice p n c ∧ n ≤ c ∧ c ≤ maxLen ∧ (0 < n → ∃ b o, p = some ⟨b, o, none⟩ ∧ b < w.heap.size ∧ ∀ i, i < xs.length → w.cell? ⟨b, o + i, none⟩ = some (xs.getD i undef))

theorem RowAt.new {w w' : World} {v : Value} {n : Nat} {xs : List Value} (h : RowAt w v n xs) (hb : New w w') : RowAt w' v n xs := by
  obtain ⟨p, c, e, h1, h2, h3⟩ := h
  refine ⟨p, c, e, h1, h2, fun h0 => ?_⟩
  obtain ⟨b, o, e1, e2, e3⟩ := h3 h0
  exact ⟨b, o, e1, Nat.lt_of_lt_of_le e2 hb.size, fun i hi => by rw [hb.cell b (o + i) e2]; exact e3 i hi⟩

theorem cell_made (w : World) (cs : Array Value) (t : TypeId) (i : Nat) : (w.alloc (.cells cs t)).cell? ⟨w.heap.size, i, none⟩ = cs[i]? := by
  have : (w.alloc (.cells cs t)).heap[w.heap.size]? = some (.cells cs t) := heap_alloc_new w _
  simp only [World.cell?, this]; rfl
theorem RowAt.made (w : World) (xs : List Value) (t : TypeId) (n : Nat) (hm : n ≤ maxLen) : RowAt (w.alloc (.cells xs.toArray t)) (.slice (some ⟨w.heap.size, 0, none⟩) n n) n xs :=
  ⟨_, n, rfl, Nat.le_refl _, hm, fun _ => ⟨_, 0, rfl, by simp, fun i hi => by rw [Nat.zero_add, cell_made]; simp [List.getD, hi]⟩⟩

theorem frozen_made (w : World) (cs : Array Value) (t : TypeId) (i : Nat) : (w.alloc (.cells cs t)).frozen? ⟨w.heap.size, i, none⟩ = false := by
  have : (w.alloc (.cells cs t)).heap[w.heap.size]? = some (.cells cs t) := heap_alloc_new w _
  simp only [World.frozen?, this]; simp
theorem New.alloc {w0 w : World} (h : New w0 w) (c : Array Value) (t : TypeId) : New w0 (w.alloc (.cells c t)) := Below.alloc h h.size _
/-- A block that was just made, in every later world. -/
theorem New.made {w w' : World} {c : Array Value} {t : TypeId} (h : New (w.alloc (.cells c t)) w') : (∀ o, w'.cell? ⟨w.heap.size, o, none⟩ = c[o]?) ∧ (∀ o, w'.frozen? ⟨w.heap.size, o, none⟩ = false) := by
  obtain ⟨h1, h2⟩ := bcell h
  exact ⟨fun o => by rw [h1 _ _ (by simp)]; exact cell_made w c t o, fun o => by rw [h2 _ _ (by simp)]; exact frozen_made w c t o⟩
theorem New.made2 {w w' : World} {c d : Array Value} {t u : TypeId} (h : New ((w.alloc (.cells c t)).alloc (.cells d u)) w') :
    ((∀ o, w'.cell? ⟨w.heap.size, o, none⟩ = c[o]?) ∧ (∀ o, w'.cell? ⟨w.heap.size + 1, o, none⟩ = d[o]?)) ∧ (∀ o, w'.frozen? ⟨w.heap.size, o, none⟩ = false) ∧ (∀ o, w'.frozen? ⟨w.heap.size + 1, o, none⟩ = false) := by
  obtain ⟨a1, a2⟩ := New.made (w := w) (c := c) (t := t) (((New.refl _).alloc d u).trans h)
  obtain ⟨b1, b2⟩ := New.made h
  rw [World.size_alloc] at b1 b2
  exact ⟨⟨a1, b1⟩, a2, b2⟩

/-- Bytes in memory. -/
def byteVals (s : ByteArray) : List Value := s.data.toList.map fun x => .int .u8 x.toNat
def Bytes (w : World) (v : Value) (s : ByteArray) : Prop := RowAt w v s.size (byteVals s)
theorem byteVals_length (s : ByteArray) : (byteVals s).length = s.size := by simp [byteVals]

theorem byteVals_getD (s : ByteArray) (i : Nat) (h : i < s.size) : (byteVals s).getD i undef = .int .u8 (s[i].toNat) := by
  simp [byteVals, List.getD, h]
  rfl

/-- The numbers of a text. -/
def nums (s : ByteArray) : List Int := s.data.toList.map fun x => (x.toNat : Int)
theorem nums_length (s : ByteArray) : (nums s).length = s.size := by simp [nums]
theorem strOfNums_nums (s : ByteArray) : strOfNums (nums s) = s := by
  apply ByteArray.ext
  apply Array.ext'
  have : ((fun n : Int => UInt8.ofNat n.toNat) ∘ fun x : UInt8 => (x.toNat : Int)) = id := by funext x; simp
  simp [strOfNums, nums, this]
theorem byteVals_nums (s : ByteArray) (i : Nat) (h : i < s.size) : (byteVals s).getD i undef = .int .u8 ((nums s).getD i 0) := by
  rw [byteVals_getD s i h]
  simp [nums, List.getD, h]
  rfl

theorem Bytes.convert {P : Program} {w : World} {v : Value} {s : ByteArray} (h : Bytes w v s) (src e dst : TypeId) (hs : P.underlying src = some (.slice e)) (he : P.underlying e = some (.int .u8)) (hd : P.underlying dst = some .string) :
    (Go.convert src dst v).run P w = .ok (.string s) w := by
  obtain ⟨p, c, rfl, h1, h2, h3⟩ := h
  by_cases h0 : 0 < s.size
  · obtain ⟨b, o, rfl, hb, hc⟩ := h3 h0
    have := run_convert_bytes_arg (P := P) w src e hs he b o s.size c (nums s) (nums_length s) (fun i hi => by rw [hc i (by rw [byteVals_length]; exact hi), byteVals_nums s i hi]) dst hd
    rw [this, strOfNums_nums]
  · have hz : s.size = 0 := by omega
    have hs0 : s = ByteArray.empty := by
      apply ByteArray.ext
      exact Array.eq_empty_of_size_eq_zero hz
    rw [hz]
    cases p with
    | none => rw [run_convert_bytes_nil (P := P) w src e hs he 0 c dst hd, hs0]
    | some a =>
      rw [run_convert_bytes_string w src dst e _ 0 c hs he hd, run_bytesToString w a 0 c [] (by simp [loadCells, loadCellsFrom]), hs0]
      rfl

structure Opn where
  unit : Int
  next : Int
  ready : ByteArray
  deriving DecidableEq
structure Rec where
  kind : Int
  unit : Int
  page : Int
  at_ : Int
  before : ByteArray
  after : ByteArray
  back : Int
  next : Int
  text : ByteArray
  units : List Opn
  deriving DecidableEq
def opnVals (l : List Opn) : List Value := l.flatMap fun u => [.int .i64 u.unit, .int .i64 u.next, .string u.ready]
def Opens (w : World) (v : Value) (l : List Opn) : Prop := RowAt w v l.length (opnVals l)
theorem opnVals_length (l : List Opn) : (opnVals l).length = 3 * l.length := by
  induction l with
  | nil => rfl
  | cons a l ih => simp [opnVals] at *; omega

theorem opnVals_get (l : List Opn) (i : Nat) (h : i < l.length) : (opnVals l).getD (i * 3) undef = .int .i64 l[i].unit ∧ (opnVals l).getD (i * 3 + 1) undef = .int .i64 l[i].next ∧ (opnVals l).getD (i * 3 + 2) undef = .string l[i].ready := by
  induction l generalizing i with
  | nil => simp at h
  | cons a l ih =>
    cases i with
    | zero => simp [opnVals]
    | succ i =>
      have := ih i (by simpa using h)
      simp only [opnVals, List.flatMap_cons, List.getElem_cons_succ] at *
      rw [show (i + 1) * 3 = i * 3 + 3 by omega, show i * 3 + 3 + 1 = i * 3 + 1 + 3 by omega, show i * 3 + 3 + 2 = i * 3 + 2 + 3 by omega]
      simpa [List.getD_cons_succ] using this

theorem opns_at {w : World} {b o : Nat} {l : List Opn} (hc : ∀ i, i < (opnVals l).length → w.cell? ⟨b, o + i, none⟩ = some ((opnVals l).getD i undef)) (k : Nat) (hk : k < l.length) :
    w.cell? ⟨b, o + k * 3, none⟩ = some (.int .i64 l[k].unit) ∧ w.cell? ⟨b, o + k * 3 + 1, none⟩ = some (.int .i64 l[k].next) ∧ w.cell? ⟨b, o + k * 3 + 2, none⟩ = some (.string l[k].ready) := by
  have hl := opnVals_length l
  obtain ⟨g0, g1, g2⟩ := opnVals_get l k hk
  have c0 := hc (k * 3) (by omega); have c1 := hc (k * 3 + 1) (by omega); have c2 := hc (k * 3 + 2) (by omega)
  rw [g0] at c0; rw [g1] at c1; rw [g2] at c2
  exact ⟨c0, c1, c2⟩

/-- The cells of a record whose parts lie in w. -/
structure RecAt (w : World) (r : Rec) (bv av uv : Value) : Prop where
  before : Bytes w bv r.before
  after : Bytes w av r.after
  units : Opens w uv r.units
abbrev recCells (r : Rec) (bv av uv : Value) : Array Value := #[.int .i64 r.kind, .int .i64 r.unit, .int .i64 r.page, .int .i64 r.at_, bv, av, .int .i64 r.back, .int .i64 r.next, .string r.text, uv]
theorem RecAt.new {w w' : World} {r : Rec} {bv av uv : Value} (h : RecAt w r bv av uv) (hb : New w w') : RecAt w' r bv av uv := ⟨h.before.new hb, h.after.new hb, h.units.new hb⟩

end Go.Proofs.Ytmchbciofdokfaa
