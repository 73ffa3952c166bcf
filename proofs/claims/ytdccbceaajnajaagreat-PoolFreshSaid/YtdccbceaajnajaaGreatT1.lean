/- slices.Grow and slices.Concat at []byte, and disk.torn. octet.Reader: what each function takes. -/
import Derived.Test.YtdccbceaajnajaaGreatD2
import Derived.Lib.AppendZeros
import Derived.LoopN
import Derived.Deep.RegionWith
namespace Go.Proofs.YtdccbceaajnajaaGreat
open Go.RowKit
set_option linter.unusedSimpArgs false
set_option linter.unusedVariables false

def GrowBack (w : World) (e : Ending) (w' : World) : Prop := ∃ p c, e = .returned (.slice p 0 c) ∧ w'.ownsRow w.heap.size 5 1 (.slice p 0 c) 0 [] ∧ New w w'

theorem zeros_run (w : World) (n : Nat) (h0 : 0 < n) (hn : n ≤ 1000000) (ty : TypeId) : ∃ w' cur cap, (Builtin.append_ #[29, 3] ty #[.slice none 0 0, .int .i64 n]).run Tryz.prog w = .ok (.slice (some ⟨w.heap.size, 0, none⟩) n cap) w' ∧
    New w w' ∧ w'.heap[w.heap.size]? = some (.cells cur 5 (0, 0)) ∧ cur.size = cap ∧ n ≤ cap ∧ cap ≤ maxLen := by
  obtain ⟨i0, hi, hz0, hz1, hz2⟩ := info_parts info5
  have h := Lib.run_append_nil_zeros (P := Tryz.prog) w 29 3 ty 5 i0 _ .i64 .i64 Tryz.underlying29 Tryz.underlying3 hi hz0 n h0 (by omega) (by omega) (by rw [hz2]; omega)
  refine ⟨_, Builtin.zeroCells (Value.int .u8 0).cells n ++ Builtin.zeroCells (Value.int .u8 0).cells (grownCap w n 0 5 - n), _, h, (New.refl w).drew.alloc _ _, ?_, ?_, grownCap_ge w n 0 5, grownCap_le_maxLen w n 0 5 (by unfold maxLen; omega)⟩
  · show (w.drew.heap.push _)[w.drew.heap.size]? = _
    rw [Array.getElem?_push_size]
  · have := grownCap_ge w n 0 5
    have e : ∀ m, (Builtin.zeroCells (Value.int .u8 0).cells m).size = m := fun m => by simp [Builtin.zeroCells, Value.cells]
    rw [Array.size_append, e, e]
    omega

set_option maxRecDepth 100000 in
set_option maxHeartbeats 800000 in
theorem grow_nil (n : Nat) (w : World) (hn : n ≤ 1000000) : Calls Tryz.prog 138 #[.slice none 0 0, .int .i64 n] w (GrowBack w) := by
  rcases Nat.eq_zero_or_pos n with rfl | h0
  · go_enter Tryz.func138, Tryz.ntmps138
    go_wp2
    go_ret
    exact ⟨none, 0, rfl, ⟨rfl, .inl ⟨rfl, rfl⟩⟩, New.refl w⟩
  · obtain ⟨w1, cur, cap, hrun, hnew, hrow, hcur, hc, hm⟩ := zeros_run w n h0 hn 29
    have HR := hid hrow
    clear hrow
    have HM := hid hm
    clear hm
    go_enter Tryz.func138, Tryz.ntmps138
    go_wp2_with (at_builtin; refine Lib.wpList_append_run _ rfl _ _ _ _ rfl _ _ rfl rfl _ _ hrun ?_)
    go_wp2
    go_ret
    exact ⟨_, cap, rfl, ⟨rfl, .inr ⟨_, cap, cur, rfl, Nat.le_refl _, HR.out, Nat.zero_le _, HM.out, by omega, by simp⟩⟩, hnew⟩

theorem app_none_run {w : World} {base : Nat} {v : Value} {n : Nat} {xs : List Value} (hown : w.ownsRow base 5 1 v n xs) (ty : TypeId) (c : Nat) :
    (Builtin.append_ #[29, 29] ty #[v, .slice none 0 c]).run Tryz.prog w = .ok v w := by
  obtain ⟨i0, hi, _⟩ := info_parts info5
  have hu := run_underlying (P := Tryz.prog) Tryz.underlying29
  obtain ⟨A, k, rfl⟩ : ∃ A k, v = .slice A n k := by
    rcases hown.2 with ⟨rfl, rfl⟩ | ⟨g, cap, cur, rfl, _⟩
    · exact ⟨_, _, rfl⟩
    · exact ⟨_, _, rfl⟩
  have hk : n ≤ k ∧ (A = none → n = 0 ∧ k = 0) := by
    rcases hown.2 with ⟨e, rfl⟩ | ⟨g, cap, cur, e, _, _, h, _⟩
    · injection e with e1 _ e3; exact ⟨Nat.zero_le _, fun _ => ⟨rfl, e3⟩⟩
    · injection e with e1 _ e3; exact ⟨by omega, fun h' => by rw [h'] at e1; cases e1⟩
  cases A with
  | none => obtain ⟨rfl, rfl⟩ := hk.2 rfl; simp [Builtin.append_, hu, sizeOf, typeInfo, hi, Builtin.lenOf, Builtin.firstCells]
  | some q => simp [Builtin.append_, hu, sizeOf, typeInfo, hi, Builtin.lenOf, Builtin.firstCells, hk.1, storeCells]
/-- append(row, s...): for any s, nil too. -/
theorem app_all {ops : Array Oper} {rest : List Oper} {o : Oper} {a : Act} {w : World} {Q : Exit → Act → World → Prop} (hgd : o.guard = none) (sl x : Operand)
    (ho : o.op = .call { callee := .builtin .append, args := #[sl, x], argTypes := #[29, 29] }) (base : Nat)
    (v : Value) (n : Nat) (xs : List Value) (hs : a.eval sl = v) (hown : w.ownsRow base 5 1 v n xs) (u : Value) (s : ByteArray) (hx : a.eval x = u) (hu : Bytes w u s)
    (hb : n + s.size ≤ 140737488355328) (hbase : base ≤ w.heap.size)
    (h : ∀ v' w', w'.ownsRow base 5 1 v' (n + s.size) (xs ++ byteVals s) → w.grownBy w' v.ownBlock → (v'.ownBlock = v.ownBlock ∨ v'.ownBlock = some w.heap.size) → wpList Tryz.prog ops Q rest (a.put o.dst v') w') : wpList Tryz.prog ops Q (o :: rest) a w := by
  obtain ⟨p, c, rfl, h1, h2, h3⟩ := id hu
  cases p with
  | some q => exact app_any hgd sl x ho base v n xs hs hown q c s hx hu hb hbase h
  | none =>
    have hz : s.size = 0 := by
      rcases Nat.eq_zero_or_pos s.size with h | h
      · exact h
      · obtain ⟨b, o, e, _⟩ := h3 h
        cases e
    have hl := byteVals_length s
    have hx0 : byteVals s = [] := List.eq_nil_of_length_eq_zero (by omega)
    have h' := h v w (by rw [hx0, hz]; simpa using hown) (World.grownBy.refl w _) (.inl rfl)
    rw [hz] at hx
    exact Lib.wpList_append_run w hgd sl x 29 29 ho v _ hs hx v w (app_none_run hown _ c) h'

theorem grow_at (m : Int) (n : Nat) (w : World) (hm : m = n) (hn : n ≤ 1000000) : Calls Tryz.prog 138 #[.slice none 0 0, .int .i64 m] w (GrowBack w) := by
  subst hm; exact grow_nil n w hn
theorem byteVals_append (a b : ByteArray) : byteVals (a ++ b) = byteVals a ++ byteVals b := by simp [byteVals]
theorem Bytes.later {w w' : World} {v : Value} {s : ByteArray} (h : Bytes w v s) (hb : New w w') : Bytes w' v s := RowAt.new h hb

set_option maxHeartbeats 1600000 in
set_option maxRecDepth 100000 in
theorem concat_two (g : Nat) (u1 u2 : Value) (s1 s2 : ByteArray) (w : World) (h1 : Bytes w u1 s1) (h2 : Bytes w u2 s2) (c1 : w.cell? ⟨g, 0, none⟩ = some u1) (c2 : w.cell? ⟨g, 1, none⟩ = some u2) (hg : g < w.heap.size) (hs1 : s1.size ≤ 1000) (hs2 : s2.size ≤ 1000) :
    Calls Tryz.prog 130 #[.slice (some ⟨g, 0, none⟩) 2 2] w (ContentBack (s1 ++ s2) w) := by
  have H1 := hid h1
  have H2 := hid h2
  obtain ⟨p1, k1, rfl, _⟩ := h1
  obtain ⟨p2, k2, rfl, _⟩ := h2
  go_enter Tryz.func130, Tryz.ntmps130
  go_wp2
  refine wp_loop_rounds 3 ?_
  rw [rounds_succ]
  go_wp2
  rw [rounds_succ]
  go_wp2
  rw [rounds_succ]
  go_wp2_with fail
  refine (grow_at _ (s1.size + s2.size) _ (by omega) (by omega)).mono ?_
  rintro e w1 ⟨p, c, rfl, hown, hn1⟩
  have d1 := (hn1.cell g 0 hg).trans c1
  have d2 := (hn1.cell g 1 hg).trans c2
  have hB1 := hid (H1.out.later hn1)
  go_wp2
  refine wp_loop_rounds 3 ?_
  rw [rounds_succ]
  go_wp2_with (at_builtin; refine app_all rfl _ _ rfl w.heap.size _ 0 [] rfl hown _ s1 rfl hB1.out ?ca ?cb ?_)
  case ca => omega
  case cb => exact hn1.size
  intro v2 w2 own2 grow2 _
  obtain ⟨p3, k3, rfl⟩ : ∃ A k, v2 = .slice A (s1.size) k := by
    rcases own2.2 with ⟨rfl, e⟩ | ⟨g, cap, cur, rfl, _⟩
    · exact ⟨_, _, by rw [e]⟩
    · exact ⟨_, _, rfl⟩
  have hn2 : New w w2 := hn1.grown grow2 hn1.size (fun k hk => (hown.lt k hk).1)
  have e1 := (hn2.cell g 0 hg).trans c1
  have e2 := (hn2.cell g 1 hg).trans c2
  have hB2 := hid (H2.out.later hn2)
  have OWN2 := hid own2
  clear own2
  go_wp2
  rw [rounds_succ]
  go_wp2_with (at_builtin; refine app_all rfl _ _ rfl w.heap.size _ (s1.size) _ rfl OWN2.out _ s2 rfl hB2.out ?ca ?cb ?_)
  case ca => omega
  case cb => exact hn2.size
  intro v3 w3 own3 grow3 _
  obtain ⟨p4, k4, rfl⟩ : ∃ A k, v3 = .slice A (s1.size + s2.size) k := by
    rcases own3.2 with ⟨rfl, e⟩ | ⟨g, cap, cur, rfl, _⟩
    · exact ⟨_, _, by rw [e]⟩
    · exact ⟨_, _, rfl⟩
  have hn3 : New w w3 := hn2.grown grow3 hn2.size (fun k hk => (OWN2.out.lt k hk).1)
  have OWN3 := hid own3
  clear own3
  go_wp2
  rw [rounds_succ]
  go_wp2
  go_ret
  have hsz : (s1 ++ s2).size = s1.size + s2.size := by simp
  have HC : Content w3 (.slice p4 (s1 ++ s2).size k4) (s1 ++ s2) := by rw [hsz]; exact own_content OWN3.out hsz (by rw [byteVals_append])
  rw [hsz] at HC
  refine ⟨p4, k4, ?_, by rw [hsz]; exact HC, hn3⟩
  rw [hsz]
  rfl

theorem byteVals_get (s : ByteArray) (i : Nat) : (byteVals s)[i]? = s.data[i]?.map fun b => .int .u8 b.toNat := by simp [byteVals]
theorem extract_get (s : ByteArray) (a b i : Nat) (h : i < min b s.size - a) : (s.extract a b).data[i]? = s.data[a + i]? := by
  rw [ByteArray.data_extract, Array.getElem?_extract, if_pos (by simpa using h)]
theorem Bytes.take {w : World} {p : Option Addr} {c : Nat} {s : ByteArray} (h : Bytes w (.slice p s.size c) s) (m : Nat) (hm : m ≤ s.size) : Bytes w (.slice p m c) (s.extract 0 m) := by
  obtain ⟨p', c', e, h1, h2, h3⟩ := h
  injection e with e1 _ e2
  subst e1 e2
  have hsz : (s.extract 0 m).size = m := by simp; omega
  refine ⟨p, c, by rw [hsz], by omega, h2, fun h0 => ?_⟩
  obtain ⟨b, o, rfl, hb, hc⟩ := h3 (by omega)
  refine ⟨b, o, rfl, hb, fun i hi => ?_⟩
  rw [byteVals_length, hsz] at hi
  rw [hc i (by rw [byteVals_length]; omega)]
  simp only [List.getD_eq_getElem?_getD, byteVals_get]
  rw [extract_get s 0 m i (by omega), Nat.zero_add]
theorem Bytes.none_left (w : World) (p : Option Addr) (c : Nat) (hc : c ≤ maxLen) : Bytes w (.slice p 0 c) ByteArray.empty := ⟨p, c, rfl, Nat.zero_le _, hc, fun h => absurd h (by decide)⟩
theorem Bytes.drop {w : World} {q : Addr} {c : Nat} {s : ByteArray} (h : Bytes w (.slice (some q) s.size c) s) (m : Nat) (hm : m < s.size) : Bytes w (.slice (some (q.add m)) (s.size - m) (c - m)) (s.extract m s.size) := by
  obtain ⟨p', c', e, h1, h2, h3⟩ := h
  injection e with e1 _ e2
  subst e1 e2
  have hsz : (s.extract m s.size).size = s.size - m := by simp
  refine ⟨_, _, by rw [hsz], by omega, by omega, fun h0 => ?_⟩
  obtain ⟨b, o, e, hb, hc⟩ := h3 (by omega)
  injection e with e
  subst e
  refine ⟨b, o + m, by unfold Addr.add; simp, hb, fun i hi => ?_⟩
  rw [byteVals_length, hsz] at hi
  rw [Nat.add_assoc, hc (m + i) (by rw [byteVals_length]; omega)]
  simp only [List.getD_eq_getElem?_getD, byteVals_get]
  rw [extract_get s m s.size i (by omega)]

theorem concat_at (g : Nat) (u1 u2 : Value) (s1 s2 t : ByteArray) (ht : t = s1 ++ s2) (w : World) (h1 : Bytes w u1 s1) (h2 : Bytes w u2 s2) (c1 : w.cell? ⟨g, 0, none⟩ = some u1) (c2 : w.cell? ⟨g, 1, none⟩ = some u2) (hg : g < w.heap.size) (hs1 : s1.size ≤ 1000) (hs2 : s2.size ≤ 1000) :
    Calls Tryz.prog 130 #[.slice (some ⟨g, 0, none⟩) 2 2] w (ContentBack t w) := by
  subst ht; exact concat_two g u1 u2 s1 s2 w h1 h2 c1 c2 hg hs1 hs2

/-- A write whose first bytes alone came to be. -/
def tornB (old new : ByteArray) (n : Nat) : ByteArray := if new.size ≤ n then new else new.extract 0 n ++ old.extract (min n old.size) old.size

end Go.Proofs.YtdccbceaajnajaaGreat

namespace Go.Proofs.YtdccbceaajnajaaGreat
open Go.RowKit
set_option linter.unusedSimpArgs false
set_option linter.unusedVariables false

/-- What a reader has: its bytes; none: it is bad. -/
abbrev RS := Option (List UInt8)
def rdTake (n : Nat) (s : RS) : Option (List UInt8) × RS :=
  match s with
  | none => (none, none)
  | some l => if n ≤ l.length then (some (l.take n), some (l.drop n)) else (none, none)

/-- A reader in memory. -/
def RdAt (w : World) (x : Nat) (s : RS) : Prop :=
  ∃ v bad, w.heap[x]? = some (.cells #[.bool true, v, .bool bad] 160 (0, 0)) ∧ (∃ p n c, v = .slice p n c) ∧ match s with | some l => bad = false ∧ Content w v (bytesOf l) | none => bad = true
theorem RdAt.lt {w : World} {x : Nat} {s : RS} (h : RdAt w x s) : x < w.heap.size := by
  obtain ⟨v, bad, h1, _⟩ := h
  exact (Array.getElem?_eq_some_iff.1 h1).1
theorem rd_cells {w : World} {x : Nat} {v : Value} {bad : Bool} (h : w.heap[x]? = some (.cells #[.bool true, v, .bool bad] 160 (0, 0))) :
    w.cell? ⟨x, 0, none⟩ = some (.bool true) ∧ w.cell? ⟨x, 1, none⟩ = some v ∧ w.cell? ⟨x, 2, none⟩ = some (.bool bad) ∧ w.frozen? ⟨x, 1, none⟩ = false ∧ w.frozen? ⟨x, 2, none⟩ = false := by
  refine ⟨?_, ?_, ?_, ?_, ?_⟩
  · simp only [World.cell?, h]; rfl
  · simp only [World.cell?, h]; rfl
  · simp only [World.cell?, h]; rfl
  · simp only [World.frozen?, h]; simp
  · simp only [World.frozen?, h]; simp
theorem rd_apart {w : World} {x : Nat} {v : Value} {bad : Bool} (h : w.heap[x]? = some (.cells #[.bool true, v, .bool bad] 160 (0, 0))) : Apart (· = x) w := by
  intro k c fr hk e
  subst hk
  rw [h] at e
  injection e with e
  injection e with _ e2 _
  cases e2
theorem RdAt.turn {S : Nat → Prop} {w w' : World} {x : Nat} {s : RS} (h : RdAt w x s) (ht : Turn S w w') (hx : ¬ S x) (hS : Apart S w) : RdAt w' x s := by
  have hl := h.lt
  obtain ⟨v, bad, h1, h2, h3⟩ := h
  refine ⟨v, bad, by rw [ht.block x hl hx]; exact h1, h2, ?_⟩
  cases s with
  | none => exact h3
  | some l => exact ⟨h3.1, h3.2.turn ht hS⟩
theorem RdAt.new {w w' : World} {x : Nat} {s : RS} (h : RdAt w x s) (hn : New w w') : RdAt w' x s := h.turn (S := fun _ => False) (Turn.of_new hn) (fun h => h) (apart_none w)
theorem rd_set1 {w : World} {x : Nat} {v : Value} {bad : Bool} (h : w.heap[x]? = some (.cells #[.bool true, v, .bool bad] 160 (0, 0))) (u : Value) : (w.setCell ⟨x, 1, none⟩ u).heap[x]? = some (.cells #[.bool true, u, .bool bad] 160 (0, 0)) :=
  heap_setCell_same w x 1 _ 160 u h
theorem rd_set2 {w : World} {x : Nat} {v : Value} {bad : Bool} (h : w.heap[x]? = some (.cells #[.bool true, v, .bool bad] 160 (0, 0))) : (w.setCell ⟨x, 2, none⟩ (.bool true)).heap[x]? = some (.cells #[.bool true, v, .bool true] 160 (0, 0)) :=
  heap_setCell_same w x 2 _ 160 (.bool true) h
theorem turn_set (w : World) (x o : Nat) (u : Value) : Turn (· = x) w (w.setCell ⟨x, o, none⟩ u) := Turn.setCell (S := (· = x)) (p := ⟨x, o, none⟩) (Turn.refl _ w) rfl u

theorem rdNone_any (x : Nat) (s : RS) (w : World) (h : RdAt w x s) : Calls Tryz.prog 121 #[.pointer (some ⟨x, 0, none⟩)] w fun e w' => e = .returned (.bool false) ∧ w = w' := by
  obtain ⟨v, bad, h1, _, _⟩ := h
  obtain ⟨c0, _⟩ := rd_cells h1
  clear h1
  go_enter Tryz.func121, Tryz.ntmps121
  go_wp2
  go_ret
  exact ⟨rfl, rfl⟩

/-- What take returns. -/
def TakeBack (x n : Nat) (s : RS) (w : World) (e : Ending) (w' : World) : Prop :=
  RdAt w' x (rdTake n s).2 ∧ Turn (· = x) w w' ∧ match (rdTake n s).1 with | none => e = .returned (.tuple #[.slice none 0 0, .int .i64 3]) | some l => ∃ p c, e = .returned (.tuple #[.slice p n c, .int .i64 0]) ∧ Content w' (.slice p n c) (bytesOf l) ∧ l.length = n

theorem bytesOf_extract (l : List UInt8) (a b : Nat) : (bytesOf l).extract a b = bytesOf ((l.take b).drop a) := by
  apply ByteArray.ext
  apply Array.ext'
  simp only [bytesOf, ByteArray.data_extract, Array.toList_extract, List.extract_eq_take_drop]
  rw [List.drop_take]
theorem Content.part {w : World} {p : Option Addr} {n c : Nat} {s : ByteArray} {p' : Option Addr} {n' c' : Nat} {s' : ByteArray} (h : Content w (.slice p n c) s) (h' : Bytes w (.slice p' n' c') s') (hb : ∀ k, (Value.slice p' n' c').ownBlock = some k → (Value.slice p n c).ownBlock = some k) : Content w (.slice p' n' c') s' :=
  ⟨h', fun k hk => h.2 k (hb k hk)⟩

set_option maxHeartbeats 2000000 in
set_option maxRecDepth 100000 in
theorem take_any (x n : Nat) (s : RS) (w : World) (h : RdAt w x s) (hn : n ≤ 1000) : Calls Tryz.prog 120 #[.pointer (some ⟨x, 0, none⟩), .int .i64 n] w (TakeBack x n s w) := by
  have H := hid h
  obtain ⟨v, bad, h1, ⟨p, m, c, rfl⟩, h3⟩ := h
  obtain ⟨c0, c1, c2, z1, z2⟩ := rd_cells h1
  have H1 := hid h1
  clear h1
  cases s with
  | none =>
    subst h3
    go_enter Tryz.func120, Tryz.ntmps120
    go_wp2_with fail
    refine (rdNone_any x _ w H.out).mono ?_
    rintro e w' ⟨rfl, rfl⟩
    go_wp2
    go_ret2
    exact ⟨⟨_, true, rd_set2 H1.out, ⟨_, _, _, rfl⟩, rfl⟩, turn_set w x 2 _, rfl⟩
  | some l =>
    obtain ⟨rfl, hc⟩ := h3
    have hc0 := hc
    obtain ⟨⟨p', c', e, g1, g2, _⟩, _⟩ := hc0
    rw [bytesOf_size] at e g1
    injection e with e1 e2 e3
    subst e1 e2 e3
    unfold maxLen at g2
    have HC := hid hc
    clear hc
    by_cases hle : n ≤ l.length
    case neg =>
      have E : Hid (rdTake n (some l) = (none, none)) := hid (by simp only [rdTake, if_neg hle])
      go_enter Tryz.func120, Tryz.ntmps120
      go_wp2_with fail
      refine (rdNone_any x _ w H.out).mono ?_
      rintro e w' ⟨rfl, rfl⟩
      go_wp2
      go_ret2
      refine ⟨?_, turn_set w x 2 _, ?_⟩
      · rw [E.out]; exact ⟨_, true, rd_set2 H1.out, ⟨_, _, _, rfl⟩, rfl⟩
      · rw [E.out]; rfl
    have E : Hid (rdTake n (some l) = (some (l.take n), some (l.drop n))) := hid (by simp only [rdTake, if_pos hle])
    have hlen : (l.take n).length = n := by rw [List.length_take]; omega
    have HLEN := hid hlen
    clear hlen
    cases p with
    | none =>
      have hl0 : l.length = 0 := by
        obtain ⟨_, _, e, _, _, h3⟩ := HC.out.1
        rw [bytesOf_size] at h3
        rcases Nat.eq_zero_or_pos l.length with h | h
        · exact h
        · obtain ⟨b, o, e', _⟩ := h3 h
          injection e with e
          rw [e'] at e; cases e
      have hn0 : n = 0 := by omega
      subst hn0
      have hl : l = [] := List.eq_nil_of_length_eq_zero hl0
      subst hl
      go_enter Tryz.func120, Tryz.ntmps120
      go_wp2_with fail
      refine (rdNone_any x _ w H.out).mono ?_
      rintro e w' ⟨rfl, rfl⟩
      go_wp2
      go_ret2
      have ht := turn_set w x 1 (.slice none 0 c)
      have hap := rd_apart H1.out
      have hcz : Content w (.slice none 0 c) (bytesOf []) := HC.out
      refine ⟨?_, ht, ?_⟩
      · rw [E.out]
        exact ⟨_, false, rd_set1 H1.out _, ⟨_, _, _, rfl⟩, rfl, hcz.turn ht hap⟩
      · rw [E.out]
        exact ⟨none, c, rfl, hcz.turn ht hap, rfl⟩
    | some q =>
      have T : Hid (∀ u, Content (w.setCell ⟨x, 1, none⟩ u) (.slice (some q) n c) (bytesOf (l.take n))) := fun u => by
        have hb := Bytes.take (m := n) (by rw [bytesOf_size]; exact HC.out.1) (by rw [bytesOf_size]; exact hle)
        rw [bytesOf_extract, List.drop_zero] at hb
        exact (HC.out.part hb (fun k hk => hk)).turn (turn_set w x 1 u) (rd_apart H1.out)
      by_cases hlt : n < l.length
      · have D : Hid (Content (w.setCell ⟨x, 1, none⟩ (.slice (some (q.add n)) (l.length - n) (c - n))) (.slice (some (q.add n)) (l.length - n) (c - n)) (bytesOf (l.drop n))) := hid (by
          have hb := Bytes.drop (m := n) (by rw [bytesOf_size]; exact HC.out.1) (by rw [bytesOf_size]; exact hlt)
          rw [bytesOf_extract, bytesOf_size, List.take_length] at hb
          exact (HC.out.part hb (fun k hk => by
            have : (q.add n).block = q.block := by unfold Addr.add; split <;> rfl
            simpa [Value.ownBlock, this] using hk)).turn (turn_set w x 1 _) (rd_apart H1.out))
        have hlc : n < c := by omega
        go_enter Tryz.func120, Tryz.ntmps120
        go_wp2_with fail
        refine (rdNone_any x _ w H.out).mono ?_
        rintro e w' ⟨rfl, rfl⟩
        go_wp2
        go_ret2
        refine ⟨?_, turn_set w x 1 _, ?_⟩
        · rw [E.out]
          exact ⟨_, false, rd_set1 H1.out _, ⟨_, _, _, rfl⟩, rfl, D.out⟩
        · rw [E.out]
          exact ⟨some q, c, rfl, T.out _, HLEN.out⟩
      · have hnl : n = l.length := by omega
        have hd : l.drop n = [] := List.drop_eq_nil_of_le (by omega)
        have HD : Hid (∀ p' c', c' ≤ maxLen → (∀ k, (Value.slice p' 0 c').ownBlock = some k → (Value.slice (some q) l.length c).ownBlock = some k) → Content (w.setCell ⟨x, 1, none⟩ (.slice p' 0 c')) (.slice p' 0 c') (bytesOf (l.drop n))) := fun p' c' h h' => by
          rw [hd]
          exact (HC.out.part (Bytes.none_left w p' c' h) h').turn (turn_set w x 1 _) (rd_apart H1.out)
        have HNL := hid hnl
        clear hnl
        by_cases hcn : n < c
        · have hz : l.length - n = 0 := by omega
          go_enter Tryz.func120, Tryz.ntmps120
          go_wp2_with fail
          refine (rdNone_any x _ w H.out).mono ?_
          rintro e w' ⟨rfl, rfl⟩
          go_wp2
          go_ret2
          refine ⟨?_, turn_set w x 1 _, ?_⟩
          · rw [E.out]
            exact ⟨_, false, rd_set1 H1.out _, ⟨_, _, _, rfl⟩, rfl, HD.out _ _ (by unfold maxLen; omega) (fun k hk => by
              have : (q.add n).block = q.block := by unfold Addr.add; split <;> rfl
              simpa [Value.ownBlock, this] using hk)⟩
          · rw [E.out]
            exact ⟨some q, c, rfl, T.out _, HLEN.out⟩
        · have hz : l.length - n = 0 := by omega
          have hcz : c - n = 0 := by omega
          go_enter Tryz.func120, Tryz.ntmps120
          go_wp2_with fail
          refine (rdNone_any x _ w H.out).mono ?_
          rintro e w' ⟨rfl, rfl⟩
          go_wp2
          go_ret2
          refine ⟨?_, turn_set w x 1 _, ?_⟩
          · rw [E.out]
            exact ⟨_, false, rd_set1 H1.out _, ⟨_, _, _, rfl⟩, rfl, HD.out _ _ (by unfold maxLen; omega) (fun k hk => hk)⟩
          · rw [E.out]
            exact ⟨some q, c, rfl, T.out _, HLEN.out⟩

end Go.Proofs.YtdccbceaajnajaaGreat
