/- Words for what lies in memory (rows, bytes, records) and small lemmas on worlds: no function is spoken of. What tape.within, tape.forms and tape.isPlace return. A region that draws its order and turns nothing of old memory. What tape.areOpen returns, for every list of units. -/
import Derived.WalkKit
import Derived.WalkSpells
import Derived.WalkLawsBesides
import Derived.Laws.BytesArg
import Derived.Test.YtdccbceaajnajaaGreatProg
import Derived.Deep.QuietTactic
import Derived.BigQuiet
namespace Go.Proofs.YtdccbceaajnajaaGreat
open Go.RowKit

theorem hid {p : Prop} (h : p) : Hid p := h
theorem ret_bool {a b : Bool} (h : a = b) : Ending.returned (.bool a) = .returned (.bool b) := by rw [h]
theorem ret_int {k : IntKind} {a b : Int} (h : a = b) : Ending.returned (.int k a) = .returned (.int k b) := by rw [h]

theorem str_beq (s t : ByteArray) : (s.toList == t.toList) = decide (s = t) := by
  rw [ByteArray.toList_eq, ByteArray.toList_eq, Bool.eq_iff_iff]
  simp only [beq_iff_eq, decide_eq_true_eq]
  exact ⟨fun h => ByteArray.ext (Array.ext' h), fun h => by rw [h]⟩

theorem str_eq {s t : ByteArray} (h : s.toList = t.toList) : s = t := by
  rw [ByteArray.toList_eq, ByteArray.toList_eq] at h
  exact ByteArray.ext (Array.ext' h)
theorem toList_nil {s : ByteArray} : s.toList = [] ↔ s.size = 0 := by
  rw [ByteArray.toList_eq, List.eq_nil_iff_length_eq_zero]
  simp only [Array.length_toList, ByteArray.size]
theorem eq_upto {α : Type} {l m : List α} (hl : l.length = m.length) (h : ∀ i, i < l.length → l[i]? = m[i]?) : l = m := by
  apply List.ext_getElem? 
  intro i
  rcases Nat.lt_or_ge i l.length with hi | hi
  · exact h i hi
  · rw [List.getElem?_eq_none hi, List.getElem?_eq_none (by omega)]

/-- Nothing that was there has turned. -/
def New (w w' : World) : Prop := Below w.heap.size w w'
theorem New.refl (w : World) : New w w := Below.refl _ _
theorem New.size {w w' : World} (h : New w w') : w.heap.size ≤ w'.heap.size := Below.size h
theorem New.trans {a b c : World} (h : New a b) (k : New b c) : New a c := Below.trans h (Below.mono k h.size)
theorem New.drew {a w : World} (h : New a w) : New a w.drew := Below.drew h
theorem New.cell {w w' : World} (h : New w w') (b o : Nat) (hb : b < w.heap.size) : w'.cell? ⟨b, o, none⟩ = w.cell? ⟨b, o, none⟩ := Below.cell h (p := ⟨b, o, none⟩) hb

theorem bcell {W w1 : World} (hb : New W w1) : (∀ b o, b < W.heap.size → w1.cell? ⟨b, o, none⟩ = W.cell? ⟨b, o, none⟩) ∧ (∀ b o, b < W.heap.size → w1.frozen? ⟨b, o, none⟩ = W.frozen? ⟨b, o, none⟩) :=
  ⟨fun b o h => Below.cell hb (p := ⟨b, o, none⟩) h, fun b o h => Below.frozen hb (p := ⟨b, o, none⟩) h⟩

/-- A list of values that lies in memory: the slice v of n elements. -/
def RowAt (w : World) (v : Value) (n : Nat) (xs : List Value) : Prop :=
  ∃ p c, v = .slice p n c ∧ n ≤ c ∧ c ≤ maxLen ∧ (0 < n → ∃ b o, p = some ⟨b, o, none⟩ ∧ b < w.heap.size ∧ ∀ i, i < xs.length → w.cell? ⟨b, o + i, none⟩ = some (xs.getD i undef))

theorem RowAt.new {w w' : World} {v : Value} {n : Nat} {xs : List Value} (h : RowAt w v n xs) (hb : New w w') : RowAt w' v n xs := by
  obtain ⟨p, c, e, h1, h2, h3⟩ := h
  refine ⟨p, c, e, h1, h2, fun h0 => ?_⟩
  obtain ⟨b, o, e1, e2, e3⟩ := h3 h0
  exact ⟨b, o, e1, Nat.lt_of_lt_of_le e2 hb.size, fun i hi => by rw [hb.cell b (o + i) e2]; exact e3 i hi⟩

theorem cell_made (w : World) (cs : Array Value) (t : TypeId) (i : Nat) : (w.alloc (.cells cs t)).cell? ⟨w.heap.size, i, none⟩ = cs[i]? := by
  have : (w.alloc (.cells cs t)).heap[w.heap.size]? = some (.cells cs t) := heap_alloc_new w _
  simp only [World.cell?, this]; rfl
theorem RowAt.made (w : World) (xs : List Value) (t : TypeId) (n : Nat) (hm : n ≤ maxLen) : RowAt (w.alloc (.cells xs.toArray t)) (.slice (some ⟨w.heap.size, 0, none⟩) n n) n xs :=
  ⟨_, n, rfl, Nat.le_refl _, hm, fun _ => ⟨_, 0, rfl, by simp, fun i hi => by rw [Nat.zero_add, cell_made]; simp [List.getD, hi]⟩⟩

theorem frozen_made (w : World) (cs : Array Value) (t : TypeId) (i : Nat) : (w.alloc (.cells cs t)).frozen? ⟨w.heap.size, i, none⟩ = false := by
  have : (w.alloc (.cells cs t)).heap[w.heap.size]? = some (.cells cs t) := heap_alloc_new w _
  simp only [World.frozen?, this]; simp
theorem New.alloc {w0 w : World} (h : New w0 w) (c : Array Value) (t : TypeId) : New w0 (w.alloc (.cells c t)) := Below.alloc h h.size _
/-- A block that was just made, in every later world. -/
theorem New.made {w w' : World} {c : Array Value} {t : TypeId} (h : New (w.alloc (.cells c t)) w') : (∀ o, w'.cell? ⟨w.heap.size, o, none⟩ = c[o]?) ∧ (∀ o, w'.frozen? ⟨w.heap.size, o, none⟩ = false) := by
  obtain ⟨h1, h2⟩ := bcell h
  exact ⟨fun o => by rw [h1 _ _ (by simp)]; exact cell_made w c t o, fun o => by rw [h2 _ _ (by simp)]; exact frozen_made w c t o⟩
theorem New.made2 {w w' : World} {c d : Array Value} {t u : TypeId} (h : New ((w.alloc (.cells c t)).alloc (.cells d u)) w') :
    ((∀ o, w'.cell? ⟨w.heap.size, o, none⟩ = c[o]?) ∧ (∀ o, w'.cell? ⟨w.heap.size + 1, o, none⟩ = d[o]?)) ∧ (∀ o, w'.frozen? ⟨w.heap.size, o, none⟩ = false) ∧ (∀ o, w'.frozen? ⟨w.heap.size + 1, o, none⟩ = false) := by
  obtain ⟨a1, a2⟩ := New.made (w := w) (c := c) (t := t) (((New.refl _).alloc d u).trans h)
  obtain ⟨b1, b2⟩ := New.made h
  rw [World.size_alloc] at b1 b2
  exact ⟨⟨a1, b1⟩, a2, b2⟩

/-- Bytes in memory. -/
def byteVals (s : ByteArray) : List Value := s.data.toList.map fun x => .int .u8 x.toNat
def Bytes (w : World) (v : Value) (s : ByteArray) : Prop := RowAt w v s.size (byteVals s)
theorem byteVals_length (s : ByteArray) : (byteVals s).length = s.size := by simp [byteVals]

theorem byteVals_getD (s : ByteArray) (i : Nat) (h : i < s.size) : (byteVals s).getD i undef = .int .u8 (s[i].toNat) := by
  simp [byteVals, List.getD, h]
  rfl

/-- The numbers of a text. -/
def nums (s : ByteArray) : List Int := s.data.toList.map fun x => (x.toNat : Int)
theorem nums_length (s : ByteArray) : (nums s).length = s.size := by simp [nums]
theorem strOfNums_nums (s : ByteArray) : strOfNums (nums s) = s := by
  apply ByteArray.ext
  apply Array.ext'
  have : ((fun n : Int => UInt8.ofNat n.toNat) ∘ fun x : UInt8 => (x.toNat : Int)) = id := by funext x; simp
  simp [strOfNums, nums, this]
theorem byteVals_nums (s : ByteArray) (i : Nat) (h : i < s.size) : (byteVals s).getD i undef = .int .u8 ((nums s).getD i 0) := by
  rw [byteVals_getD s i h]
  simp [nums, List.getD, h]
  rfl

theorem Bytes.convert {P : Program} {w : World} {v : Value} {s : ByteArray} (h : Bytes w v s) (src e dst : TypeId) (hs : P.underlying src = some (.slice e)) (he : P.underlying e = some (.int .u8)) (hd : P.underlying dst = some .string) :
    (Go.convert src dst v).run P w = .ok (.string s) w := by
  obtain ⟨p, c, rfl, h1, h2, h3⟩ := h
  by_cases h0 : 0 < s.size
  · obtain ⟨b, o, rfl, hb, hc⟩ := h3 h0
    have := run_convert_bytes_arg (P := P) w src e hs he b o s.size c (nums s) (nums_length s) (fun i hi => by rw [hc i (by rw [byteVals_length]; exact hi), byteVals_nums s i hi]) dst hd
    rw [this, strOfNums_nums]
  · have hz : s.size = 0 := by omega
    have hs0 : s = ByteArray.empty := by
      apply ByteArray.ext
      exact Array.eq_empty_of_size_eq_zero hz
    rw [hz]
    cases p with
    | none => rw [run_convert_bytes_nil (P := P) w src e hs he 0 c dst hd, hs0]
    | some a =>
      rw [run_convert_bytes_string w src dst e _ 0 c hs he hd, run_bytesToString w a 0 c [] (by simp [loadCells, loadCellsFrom]), hs0]
      rfl

structure Opn where
  unit : Int
  next : Int
  ready : ByteArray
  deriving DecidableEq
structure Rec where
  kind : Int
  unit : Int
  page : Int
  at_ : Int
  before : ByteArray
  after : ByteArray
  back : Int
  next : Int
  text : ByteArray
  units : List Opn
  deriving DecidableEq
def opnVals (l : List Opn) : List Value := l.flatMap fun u => [.int .i64 u.unit, .int .i64 u.next, .string u.ready]
def Opens (w : World) (v : Value) (l : List Opn) : Prop := RowAt w v l.length (opnVals l)
theorem opnVals_length (l : List Opn) : (opnVals l).length = 3 * l.length := by
  induction l with
  | nil => rfl
  | cons a l ih => simp [opnVals] at *; omega

theorem opnVals_get (l : List Opn) (i : Nat) (h : i < l.length) : (opnVals l).getD (i * 3) undef = .int .i64 l[i].unit ∧ (opnVals l).getD (i * 3 + 1) undef = .int .i64 l[i].next ∧ (opnVals l).getD (i * 3 + 2) undef = .string l[i].ready := by
  induction l generalizing i with
  | nil => simp at h
  | cons a l ih =>
    cases i with
    | zero => simp [opnVals]
    | succ i =>
      have := ih i (by simpa using h)
      simp only [opnVals, List.flatMap_cons, List.getElem_cons_succ] at *
      rw [show (i + 1) * 3 = i * 3 + 3 by omega, show i * 3 + 3 + 1 = i * 3 + 1 + 3 by omega, show i * 3 + 3 + 2 = i * 3 + 2 + 3 by omega]
      simpa [List.getD_cons_succ] using this

theorem opns_at {w : World} {b o : Nat} {l : List Opn} (hc : ∀ i, i < (opnVals l).length → w.cell? ⟨b, o + i, none⟩ = some ((opnVals l).getD i undef)) (k : Nat) (hk : k < l.length) :
    w.cell? ⟨b, o + k * 3, none⟩ = some (.int .i64 l[k].unit) ∧ w.cell? ⟨b, o + k * 3 + 1, none⟩ = some (.int .i64 l[k].next) ∧ w.cell? ⟨b, o + k * 3 + 2, none⟩ = some (.string l[k].ready) := by
  have hl := opnVals_length l
  obtain ⟨g0, g1, g2⟩ := opnVals_get l k hk
  have c0 := hc (k * 3) (by omega); have c1 := hc (k * 3 + 1) (by omega); have c2 := hc (k * 3 + 2) (by omega)
  rw [g0] at c0; rw [g1] at c1; rw [g2] at c2
  exact ⟨c0, c1, c2⟩

/-- The cells of a record whose parts lie in w. -/
structure RecAt (w : World) (r : Rec) (bv av uv : Value) : Prop where
  before : Bytes w bv r.before
  after : Bytes w av r.after
  units : Opens w uv r.units
abbrev recCells (r : Rec) (bv av uv : Value) : Array Value := #[.int .i64 r.kind, .int .i64 r.unit, .int .i64 r.page, .int .i64 r.at_, bv, av, .int .i64 r.back, .int .i64 r.next, .string r.text, uv]
theorem RecAt.new {w w' : World} {r : Rec} {bv av uv : Value} (h : RecAt w r bv av uv) (hb : New w w') : RecAt w' r bv av uv := ⟨h.before.new hb, h.after.new hb, h.units.new hb⟩

end Go.Proofs.YtdccbceaajnajaaGreat

namespace Go.Proofs.YtdccbceaajnajaaGreat
open Go.RowKit

set_option maxHeartbeats 400000 in
theorem within_yes (lo n hi : Int) (w : World) (h : lo ≤ n ∧ n ≤ hi) : Calls Tryz.prog 93 #[.int .i64 lo, .int .i64 n, .int .i64 hi] w fun e w' => e = .returned (.bool true) ∧ w = w' := by
  obtain ⟨h1, h2⟩ := h
  go_enter Tryz.func93, Tryz.ntmps93
  go_wp2
  go_ret
  exact ⟨ret_bool (by simp; try omega), rfl⟩
/-- lo ≤ n ≤ hi, as one word that no walk opens. -/
def wi (lo n hi : Int) : Bool := decide (lo ≤ n) && decide (n ≤ hi)
set_option maxHeartbeats 400000 in
theorem within_no (lo n hi : Int) (w : World) (h : ¬ (lo ≤ n ∧ n ≤ hi)) : Calls Tryz.prog 93 #[.int .i64 lo, .int .i64 n, .int .i64 hi] w fun e w' => e = .returned (.bool false) ∧ w = w' := by
  by_cases h1 : lo ≤ n
  · have h2 : hi < n := by omega
    clear h
    go_enter Tryz.func93, Tryz.ntmps93
    go_wp2
    go_ret
    exact ⟨ret_bool (by simp; try omega), rfl⟩
  · clear h
    go_enter Tryz.func93, Tryz.ntmps93
    go_wp2
    go_ret
    exact ⟨rfl, rfl⟩

/-- What a kind of records has: place, before, back, text, units; and whether it is one. -/
def FormBack (a b c d u ok : Bool) (w : World) (e : Ending) (w' : World) : Prop := e = .returned (.tuple #[.agg #[.bool a, .bool b, .bool c, .bool d, .bool u], .bool ok]) ∧ New w w'
theorem within_any (lo n hi : Int) (w : World) : Calls Tryz.prog 93 #[.int .i64 lo, .int .i64 n, .int .i64 hi] w fun e w' => e = .returned (.bool (wi lo n hi)) ∧ w = w' := by
  by_cases h : lo ≤ n ∧ n ≤ hi
  · have : wi lo n hi = true := by simp [wi, h]
    rw [this]; exact within_yes lo n hi w h
  · have : wi lo n hi = false := by simp only [wi]; rw [Bool.eq_false_iff]; simpa using h
    rw [this]; exact within_no lo n hi w h
theorem wi_iff {lo n hi : Int} : wi lo n hi = true ↔ lo ≤ n ∧ n ≤ hi := by simp [wi]

set_option maxHeartbeats 400000 in
theorem forms_1 (w : World) : Calls Tryz.prog 89 #[.int .i64 1] w (FormBack true true false false false true w) := by
  go_enter Tryz.func89, Tryz.ntmps89
  go_wp2
  exact bodyPost_ret (v := .tuple #[.agg #[.bool true, .bool true, .bool false, .bool false, .bool false], .bool true]) (by simp [results, Tryz.results89, go_sem]) rfl ⟨rfl, (New.refl w).alloc _ _⟩
set_option maxHeartbeats 400000 in
theorem forms_2 (w : World) : Calls Tryz.prog 89 #[.int .i64 2] w (FormBack true false true false false true w) := by
  go_enter Tryz.func89, Tryz.ntmps89
  go_wp2
  exact bodyPost_ret (v := .tuple #[.agg #[.bool true, .bool false, .bool true, .bool false, .bool false], .bool true]) (by simp [results, Tryz.results89, go_sem]) rfl ⟨rfl, (New.refl w).alloc _ _⟩
set_option maxHeartbeats 400000 in
theorem forms_3 (w : World) : Calls Tryz.prog 89 #[.int .i64 3] w (FormBack false false false false false true w) := by
  go_enter Tryz.func89, Tryz.ntmps89
  go_wp2
  exact bodyPost_ret (v := .tuple #[.agg #[.bool false, .bool false, .bool false, .bool false, .bool false], .bool true]) (by simp [results, Tryz.results89, go_sem]) rfl ⟨rfl, (New.refl w).alloc _ _⟩
set_option maxHeartbeats 400000 in
theorem forms_4 (w : World) : Calls Tryz.prog 89 #[.int .i64 4] w (FormBack false false false false false true w) := by
  go_enter Tryz.func89, Tryz.ntmps89
  go_wp2
  exact bodyPost_ret (v := .tuple #[.agg #[.bool false, .bool false, .bool false, .bool false, .bool false], .bool true]) (by simp [results, Tryz.results89, go_sem]) rfl ⟨rfl, (New.refl w).alloc _ _⟩
set_option maxHeartbeats 400000 in
theorem forms_5 (w : World) : Calls Tryz.prog 89 #[.int .i64 5] w (FormBack false false false true false true w) := by
  go_enter Tryz.func89, Tryz.ntmps89
  go_wp2
  exact bodyPost_ret (v := .tuple #[.agg #[.bool false, .bool false, .bool false, .bool true, .bool false], .bool true]) (by simp [results, Tryz.results89, go_sem]) rfl ⟨rfl, (New.refl w).alloc _ _⟩
set_option maxHeartbeats 400000 in
theorem forms_6 (w : World) : Calls Tryz.prog 89 #[.int .i64 6] w (FormBack false false false false true true w) := by
  go_enter Tryz.func89, Tryz.ntmps89
  go_wp2
  exact bodyPost_ret (v := .tuple #[.agg #[.bool false, .bool false, .bool false, .bool false, .bool true], .bool true]) (by simp [results, Tryz.results89, go_sem]) rfl ⟨rfl, (New.refl w).alloc _ _⟩
set_option maxHeartbeats 400000 in
theorem forms_7 (w : World) : Calls Tryz.prog 89 #[.int .i64 7] w (FormBack false false false true false true w) := by
  go_enter Tryz.func89, Tryz.ntmps89
  go_wp2
  exact bodyPost_ret (v := .tuple #[.agg #[.bool false, .bool false, .bool false, .bool true, .bool false], .bool true]) (by simp [results, Tryz.results89, go_sem]) rfl ⟨rfl, (New.refl w).alloc _ _⟩
set_option maxHeartbeats 400000 in
theorem forms_no (k : Int) (w : World) (h1 : (k == 1) = false) (h2 : (k == 2) = false) (h3 : (k == 3) = false) (h4 : (k == 4) = false) (h5 : (k == 5) = false) (h6 : (k == 6) = false) (h7 : (k == 7) = false) :
    Calls Tryz.prog 89 #[.int .i64 k] w (FormBack false false false false false false w) := by
  go_enter Tryz.func89, Tryz.ntmps89
  go_wp2
  exact bodyPost_ret (v := .tuple #[.agg #[.bool false, .bool false, .bool false, .bool false, .bool false], .bool false]) (by simp [results, Tryz.results89, go_sem]) rfl ⟨rfl, (New.refl w).alloc _ _⟩

/-- What is laid is within its page. -/
def placeB (r : Rec) : Bool := wi 0 r.page 119 && wi 0 r.at_ 127 && wi 1 r.after.size (128 - r.at_)

set_option maxHeartbeats 1000000 in
theorem isPlace_any (r : Rec) (bv av uv : Value) (w : World) (h : RecAt w r bv av uv) :
    Calls Tryz.prog 94 #[.agg (recCells r bv av uv)] w fun e w' => e = .returned (.bool (placeB r)) ∧ New w w' := by
  obtain ⟨_, ⟨ap, ac, rfl, a1, a2, a3⟩, _⟩ := h
  unfold maxLen at a2
  unfold recCells
  have hn : ∀ c, New w (w.alloc (.cells c 70)) := fun c => (New.refl w).alloc _ _
  by_cases h1 : wi 0 r.page 119 = true
  · by_cases h2 : wi 0 r.at_ 127 = true
    · have h2' := wi_iff.1 h2
      go_enter Tryz.func94, Tryz.ntmps94
      go_wp2_with (go_at_call 93; refine (within_any _ _ _ _).mono ?_; rintro e w' ⟨rfl, rfl⟩)
      go_ret
      exact ⟨ret_bool (by simp [placeB, h1, h2]), hn _⟩
    · have h2 : wi 0 r.at_ 127 = false := by simpa using h2
      go_enter Tryz.func94, Tryz.ntmps94
      go_wp2_with (go_at_call 93; refine (within_any _ _ _ _).mono ?_; rintro e w' ⟨rfl, rfl⟩)
      go_ret
      exact ⟨ret_bool (by simp [placeB, h2]), hn _⟩
  · have h1 : wi 0 r.page 119 = false := by simpa using h1
    go_enter Tryz.func94, Tryz.ntmps94
    go_wp2_with (go_at_call 93; refine (within_any _ _ _ _).mono ?_; rintro e w' ⟨rfl, rfl⟩)
    go_ret
    exact ⟨ret_bool (by simp [placeB, h1]), hn _⟩

end Go.Proofs.YtdccbceaajnajaaGreat

namespace Go.Proofs.YtdccbceaajnajaaGreat
open Go.RowKit

theorem quiet_left {P : Program} {f : FuncId} {args : Array Value} {w : World} {n : Nat} {v : Value}
    (h : Calls P f args (w.drewN n) fun e w' => e = .returned v ∧ w.drewN n = w') : Calls P f args (w.drewN n) fun e w'' => e = .returned v ∧ ∃ m, w'' = w.drewN m :=
  h.mono fun _ _ ⟨he, hm⟩ => ⟨he, n, hm.symm⟩
theorem New.drewN {a w : World} (h : New a w) (n : Nat) : New a (w.drewN n) := ⟨h.os, h.tape, h.output, h.size, h.block⟩

/-- A world in which nothing has turned of what W held. -/
structure After (W : World) where
  w : World
  new : New W w

instance (W : World) : Nonempty (After W) := ⟨⟨W, New.refl W⟩⟩

/-- A region that draws its order, whose operations only read old memory or call functions that turn nothing and return one value: one walk in the order of the text. -/
theorem wp_region_new {P : Program} {id : Nat} {Q : Exit → Act → World → Prop} {a : Act} {w : World} {l : List Oper} (hm : P.follows .mixedOrders = true) (hB : Region.lexB .any l.toArray = true)
    (h : wpQuiet P l.toArray (fun w' => ∃ p : After w, w' = p.w) (fun a' => ∀ w', (∃ p : After w, w' = p.w) → Q .normal a' w') l a) : (Code.region id l.toArray true).wp P Q a w :=
  wp_region_quiet (C := fun w' => ∃ p : After w, w' = p.w) hm hB ⟨⟨w.drew, (New.refl w).drew⟩, rfl⟩ (by simpa using h)
theorem calls_after {P : Program} {f : FuncId} {args : Array Value} {W : World} {p : After W} {v : Value} (h : Calls P f args p.w fun e w' => e = .returned v ∧ New p.w w') :
    Calls P f args p.w fun e w'' => e = .returned v ∧ ∃ q : After W, w'' = q.w :=
  h.mono fun _ w'' ⟨he, hn⟩ => ⟨he, ⟨w'', p.new.trans hn⟩, rfl⟩
theorem calls_after_same {P : Program} {f : FuncId} {args : Array Value} {W : World} {p : After W} {v : Value} (h : Calls P f args p.w fun e w' => e = .returned v ∧ p.w = w') :
    Calls P f args p.w fun e w'' => e = .returned v ∧ ∃ q : After W, w'' = q.w :=
  h.mono fun _ _ ⟨he, hn⟩ => ⟨he, p, hn.symm⟩

end Go.Proofs.YtdccbceaajnajaaGreat

namespace Go.Proofs.YtdccbceaajnajaaGreat
open Go.RowKit

/-- A unit of a mark may stand behind another. -/
def okU (p : Option Opn) (u : Opn) : Bool := wi 0 u.unit 1000000 && wi 0 u.next 1000000 && decide (u.ready.size ≤ 30) && (match p with | none => true | some v => decide (v.unit < u.unit))
def okAt (l : List Opn) (i : Nat) : Bool :=
  match l[i]? with
  | some u => okU (if i = 0 then none else l[i - 1]?) u
  | none => true
theorem okAt_zero {l : List Opn} (h : 0 < l.length) : okAt l 0 = okU none l[0] := by
  unfold okAt; rw [List.getElem?_eq_getElem h]; rfl
theorem okAt_succ {l : List Opn} {j : Nat} (h : j + 1 < l.length) : okAt l (j + 1) = okU (some (l[j]'(by omega))) l[j + 1] := by
  unfold okAt; rw [List.getElem?_eq_getElem h]
  simp only [Nat.add_one_ne_zero, if_false, Nat.add_sub_cancel]
  rw [List.getElem?_eq_getElem (by omega)]
def openB (l : List Opn) : Bool := (List.range l.length).all (okAt l) && decide (l.length ≤ 8)
theorem openB_no {l : List Opn} {k : Nat} (hk : k < l.length) (h : okAt l k = false) : openB l = false := by
  have : (List.range l.length).all (okAt l) = false := by
    rw [List.all_eq_false]
    exact ⟨k, List.mem_range.2 hk, by simp [h]⟩
  simp [openB, this]
theorem openB_end {l : List Opn} (h : ∀ j, j < l.length → okAt l j = true) : openB l = decide (l.length ≤ 8) := by
  have : (List.range l.length).all (okAt l) = true := by
    rw [List.all_eq_true]
    intro x hx
    exact h x (List.mem_range.1 hx)
  simp [openB, this]

set_option maxHeartbeats 2000000 in
theorem areOpen_any (v : Value) (l : List Opn) (w : World) (h : Opens w v l) :
    Calls Tryz.prog 95 #[v] w fun e w' => e = .returned (.bool (openB l)) ∧ New w w' := by
  obtain ⟨gp, gc, rfl, g1, g2, g3⟩ := h
  unfold maxLen at g2
  go_enter Tryz.func95, Tryz.ntmps95
  go_wp2
  go_loopw [3, 4, 7] (fun _ _ i wr => ∃ k : Nat, k ≤ l.length ∧ i = .int .i64 k ∧ New w wr ∧ Hid (∀ j, j < k → okAt l j = true)) (fun _ _ i _ => l.length - (intOf i).toNat)
  case atStart => exact ⟨0, Nat.zero_le _, rfl, New.refl _, fun j hj => by omega⟩
  case round =>
    obtain ⟨k, hk, rfl, hnew, hall⟩ := hrel
    by_cases hlt : k < l.length
    · obtain ⟨b, o, rfl, hb, hc⟩ := g3 (by omega)
      obtain ⟨c0, c1, c2⟩ := opns_at hc k hlt
      rw [← hnew.cell _ _ hb] at c0 c1 c2
      have hb2 : b < wr.heap.size := Nat.lt_of_lt_of_le hb hnew.size
      have HNO : Hid (okAt l k = false → openB l = false) := openB_no hlt
      have HGO : Hid (∀ {W}, New w W → okAt l k = true → ∃ k' : Nat, k' ≤ l.length ∧ Value.int .i64 ((k : Int) + 1) = .int .i64 k' ∧ New w W ∧ Hid (∀ j, j < k' → okAt l j = true)) := fun hW ho =>
        ⟨k + 1, by omega, by simp, hW, fun j hj => by
          rcases Nat.lt_or_ge j k with h | h
          · exact hall.out j h
          · obtain rfl : j = k := by omega
            exact ho⟩
      clear hall
      cases k with
      | zero =>
        have HOK := hid (okAt_zero hlt)
        simp only [Nat.zero_mul, Nat.add_zero] at c0 c1 c2
        clear hc g3
        generalize hx : l[0] = x at *
        clear hx
        by_cases e1 : wi 0 x.unit 1000000 = true
        case neg =>
          have e1 : wi 0 x.unit 1000000 = false := by simpa using e1
          go_wp2
          go_quiet ((go_at_call 93; exact quiet_left (within_any _ _ _ _)))
          go_wp2
          go_ret
          exact ⟨ret_bool (HNO.out (by rw [HOK.out]; simp [okU, e1])).symm, ((hnew.alloc _ _)).drewN _⟩
        by_cases e2 : wi 0 x.next 1000000 = true
        case neg =>
          have e2 : wi 0 x.next 1000000 = false := by simpa using e2
          go_wp2
          go_quiet ((go_at_call 93; exact quiet_left (within_any _ _ _ _)))
          go_wp2
          go_ret
          exact ⟨ret_bool (HNO.out (by rw [HOK.out]; simp [okU, e2])).symm, ((hnew.alloc _ _)).drewN _⟩
        by_cases e3 : x.ready.size ≤ 30
        case neg =>
          have t3 : decide (30 < (x.ready.size : Int)) = true := by simp; omega
          have E3 := hid e3
          clear e3
          go_wp2
          go_quiet ((go_at_call 93; exact quiet_left (within_any _ _ _ _)))
          go_wp2
          go_ret
          exact ⟨ret_bool (HNO.out (by rw [HOK.out]; simp [okU, E3.out])).symm, ((hnew.alloc _ _)).drewN _⟩
        have t3 : decide (30 < (x.ready.size : Int)) = false := by simp; omega
        have E3 := hid e3
        clear e3
        go_wp2
        go_quiet ((go_at_call 93; exact quiet_left (within_any _ _ _ _)))
        go_wp2
        go_roundw
        case rel => exact HGO.out ((hnew.alloc _ _).drewN _) (by rw [HOK.out]; simp [okU, e1, e2, E3.out])
        case measure => simp [intOf]; omega
      | succ j =>
        have HOK := hid (okAt_succ hlt)
        obtain ⟨d0, d1, d2⟩ := opns_at hc j (by omega)
        rw [← hnew.cell _ _ hb] at d0 d1 d2
        generalize hy : l[j] = y at *
        clear hy d1 d2
        clear hc g3
        generalize hx : l[j + 1] = x at *
        clear hx
        by_cases e1 : wi 0 x.unit 1000000 = true
        case neg =>
          have e1 : wi 0 x.unit 1000000 = false := by simpa using e1
          go_wp2
          go_quiet ((go_at_call 93; exact quiet_left (within_any _ _ _ _)))
          go_wp2
          go_ret
          exact ⟨ret_bool (HNO.out (by rw [HOK.out]; simp [okU, e1])).symm, ((hnew.alloc _ _)).drewN _⟩
        by_cases e2 : wi 0 x.next 1000000 = true
        case neg =>
          have e2 : wi 0 x.next 1000000 = false := by simpa using e2
          go_wp2
          go_quiet ((go_at_call 93; exact quiet_left (within_any _ _ _ _)))
          go_wp2
          go_ret
          exact ⟨ret_bool (HNO.out (by rw [HOK.out]; simp [okU, e2])).symm, ((hnew.alloc _ _)).drewN _⟩
        by_cases e3 : x.ready.size ≤ 30
        case neg =>
          have t3 : decide (30 < (x.ready.size : Int)) = true := by simp; omega
          have E3 := hid e3
          clear e3
          go_wp2
          go_quiet ((go_at_call 93; exact quiet_left (within_any _ _ _ _)))
          go_wp2
          go_ret
          exact ⟨ret_bool (HNO.out (by rw [HOK.out]; simp [okU, E3.out])).symm, ((hnew.alloc _ _)).drewN _⟩
        have t3 : decide (30 < (x.ready.size : Int)) = false := by simp; omega
        have E3 := hid e3
        clear e3
        by_cases e4 : y.unit < x.unit
        case neg =>
          have E4 := hid e4
          have e4 : x.unit ≤ y.unit := by omega
          go_wp2
          go_quiet ((go_at_call 93; exact quiet_left (within_any _ _ _ _)))
          go_wp2
          go_ret
          exact ⟨ret_bool (HNO.out (by rw [HOK.out]; simp [okU, E4.out])).symm, ((hnew.alloc _ _)).drewN _⟩
        have E4 := hid e4
        go_wp2
        go_quiet ((go_at_call 93; exact quiet_left (within_any _ _ _ _)))
        go_wp2
        go_roundw
        case rel => exact HGO.out ((hnew.alloc _ _).drewN _) (by rw [HOK.out]; simp [okU, e1, e2, E3.out, E4.out])
        case measure => simp [intOf]; omega
    · obtain rfl : k = l.length := by omega
      have HE : Hid _ := openB_end hall.out
      go_wp2
      go_ret
      exact ⟨ret_bool (by rw [HE.out]; simp; omega), hnew⟩

end Go.Proofs.YtdccbceaajnajaaGreat
