/- slices.Grow and slices.Concat at []byte, and disk.torn. -/
import Derived.Test.YtdccbceaajnajaaD2
import Derived.Lib.AppendZeros
import Derived.LoopN
import Derived.Deep.RegionWith
namespace Go.Proofs.Ytdccbceaajnajaa
open Go.RowKit
set_option linter.unusedSimpArgs false
set_option linter.unusedVariables false

def GrowBack (w : World) (e : Ending) (w' : World) : Prop := ∃ p c, e = .returned (.slice p 0 c) ∧ w'.ownsRow w.heap.size 5 1 (.slice p 0 c) 0 [] ∧ New w w'

theorem zeros_run (w : World) (n : Nat) (h0 : 0 < n) (hn : n ≤ 1000000) (ty : TypeId) : ∃ w' cur cap, (Builtin.append_ #[22, 3] ty #[.slice none 0 0, .int .i64 n]).run Try.prog w = .ok (.slice (some ⟨w.heap.size, 0, none⟩) n cap) w' ∧
    New w w' ∧ w'.heap[w.heap.size]? = some (.cells cur 5 (0, 0)) ∧ cur.size = cap ∧ n ≤ cap ∧ cap ≤ maxLen := by
  obtain ⟨i0, hi, hz0, hz1, hz2⟩ := info_parts info5
  have h := Lib.run_append_nil_zeros (P := Try.prog) w 22 3 ty 5 i0 _ .i64 .i64 Try.underlying22 Try.underlying3 hi hz0 n h0 (by omega) (by omega) (by rw [hz2]; omega)
  refine ⟨_, Builtin.zeroCells (Value.int .u8 0).cells n ++ Builtin.zeroCells (Value.int .u8 0).cells (grownCap w n 0 5 - n), _, h, (New.refl w).drew.alloc _ _, ?_, ?_, grownCap_ge w n 0 5, grownCap_le_maxLen w n 0 5 (by unfold maxLen; omega)⟩
  · show (w.drew.heap.push _)[w.drew.heap.size]? = _
    rw [Array.getElem?_push_size]
  · have := grownCap_ge w n 0 5
    have e : ∀ m, (Builtin.zeroCells (Value.int .u8 0).cells m).size = m := fun m => by simp [Builtin.zeroCells, Value.cells]
    rw [Array.size_append, e, e]
    omega

set_option maxRecDepth 100000 in
set_option maxHeartbeats 800000 in
theorem grow_nil (n : Nat) (w : World) (hn : n ≤ 1000000) : Calls Try.prog 41 #[.slice none 0 0, .int .i64 n] w (GrowBack w) := by
  rcases Nat.eq_zero_or_pos n with rfl | h0
  · go_enter Try.func41, Try.ntmps41
    go_wp2
    go_ret
    exact ⟨none, 0, rfl, ⟨rfl, .inl ⟨rfl, rfl⟩⟩, New.refl w⟩
  · obtain ⟨w1, cur, cap, hrun, hnew, hrow, hcur, hc, hm⟩ := zeros_run w n h0 hn 22
    have HR := hid hrow
    clear hrow
    have HM := hid hm
    clear hm
    go_enter Try.func41, Try.ntmps41
    go_wp2_with (at_builtin; refine Lib.wpList_append_run _ rfl _ _ _ _ rfl _ _ rfl rfl _ _ hrun ?_)
    go_wp2
    go_ret
    exact ⟨_, cap, rfl, ⟨rfl, .inr ⟨_, cap, cur, rfl, Nat.le_refl _, HR.out, Nat.zero_le _, HM.out, by omega, by simp⟩⟩, hnew⟩

theorem app_none_run {w : World} {base : Nat} {v : Value} {n : Nat} {xs : List Value} (hown : w.ownsRow base 5 1 v n xs) (ty : TypeId) (c : Nat) :
    (Builtin.append_ #[22, 22] ty #[v, .slice none 0 c]).run Try.prog w = .ok v w := by
  obtain ⟨i0, hi, _⟩ := info_parts info5
  have hu := run_underlying (P := Try.prog) Try.underlying22
  obtain ⟨A, k, rfl⟩ : ∃ A k, v = .slice A n k := by
    rcases hown.2 with ⟨rfl, rfl⟩ | ⟨g, cap, cur, rfl, _⟩
    · exact ⟨_, _, rfl⟩
    · exact ⟨_, _, rfl⟩
  have hk : n ≤ k ∧ (A = none → n = 0 ∧ k = 0) := by
    rcases hown.2 with ⟨e, rfl⟩ | ⟨g, cap, cur, e, _, _, h, _⟩
    · injection e with e1 _ e3; exact ⟨Nat.zero_le _, fun _ => ⟨rfl, e3⟩⟩
    · injection e with e1 _ e3; exact ⟨by omega, fun h' => by rw [h'] at e1; cases e1⟩
  cases A with
  | none => obtain ⟨rfl, rfl⟩ := hk.2 rfl; simp [Builtin.append_, hu, sizeOf, typeInfo, hi, Builtin.lenOf, Builtin.firstCells]
  | some q => simp [Builtin.append_, hu, sizeOf, typeInfo, hi, Builtin.lenOf, Builtin.firstCells, hk.1, storeCells]
/-- append(row, s...): for any s, nil too. -/
theorem app_all {ops : Array Oper} {rest : List Oper} {o : Oper} {a : Act} {w : World} {Q : Exit → Act → World → Prop} (hgd : o.guard = none) (sl x : Operand)
    (ho : o.op = .call { callee := .builtin .append, args := #[sl, x], argTypes := #[22, 22] }) (base : Nat)
    (v : Value) (n : Nat) (xs : List Value) (hs : a.eval sl = v) (hown : w.ownsRow base 5 1 v n xs) (u : Value) (s : ByteArray) (hx : a.eval x = u) (hu : Bytes w u s)
    (hb : n + s.size ≤ 140737488355328) (hbase : base ≤ w.heap.size)
    (h : ∀ v' w', w'.ownsRow base 5 1 v' (n + s.size) (xs ++ byteVals s) → w.grownBy w' v.ownBlock → (v'.ownBlock = v.ownBlock ∨ v'.ownBlock = some w.heap.size) → wpList Try.prog ops Q rest (a.put o.dst v') w') : wpList Try.prog ops Q (o :: rest) a w := by
  obtain ⟨p, c, rfl, h1, h2, h3⟩ := id hu
  cases p with
  | some q => exact app_any hgd sl x ho base v n xs hs hown q c s hx hu hb hbase h
  | none =>
    have hz : s.size = 0 := by
      rcases Nat.eq_zero_or_pos s.size with h | h
      · exact h
      · obtain ⟨b, o, e, _⟩ := h3 h
        cases e
    have hl := byteVals_length s
    have hx0 : byteVals s = [] := List.eq_nil_of_length_eq_zero (by omega)
    have h' := h v w (by rw [hx0, hz]; simpa using hown) (World.grownBy.refl w _) (.inl rfl)
    rw [hz] at hx
    exact Lib.wpList_append_run w hgd sl x 22 22 ho v _ hs hx v w (app_none_run hown _ c) h'

theorem grow_at (m : Int) (n : Nat) (w : World) (hm : m = n) (hn : n ≤ 1000000) : Calls Try.prog 41 #[.slice none 0 0, .int .i64 m] w (GrowBack w) := by
  subst hm; exact grow_nil n w hn
theorem byteVals_append (a b : ByteArray) : byteVals (a ++ b) = byteVals a ++ byteVals b := by simp [byteVals]
theorem Bytes.later {w w' : World} {v : Value} {s : ByteArray} (h : Bytes w v s) (hb : New w w') : Bytes w' v s := RowAt.new h hb

set_option maxHeartbeats 1600000 in
set_option maxRecDepth 100000 in
theorem concat_two (g : Nat) (u1 u2 : Value) (s1 s2 : ByteArray) (w : World) (h1 : Bytes w u1 s1) (h2 : Bytes w u2 s2) (c1 : w.cell? ⟨g, 0, none⟩ = some u1) (c2 : w.cell? ⟨g, 1, none⟩ = some u2) (hg : g < w.heap.size) (hs1 : s1.size ≤ 1000) (hs2 : s2.size ≤ 1000) :
    Calls Try.prog 22 #[.slice (some ⟨g, 0, none⟩) 2 2] w (ContentBack (s1 ++ s2) w) := by
  have H1 := hid h1
  have H2 := hid h2
  obtain ⟨p1, k1, rfl, _⟩ := h1
  obtain ⟨p2, k2, rfl, _⟩ := h2
  go_enter Try.func22, Try.ntmps22
  go_wp2
  refine wp_loop_rounds 3 ?_
  rw [rounds_succ]
  go_wp2
  rw [rounds_succ]
  go_wp2
  rw [rounds_succ]
  go_wp2_with fail
  refine (grow_at _ (s1.size + s2.size) _ (by omega) (by omega)).mono ?_
  rintro e w1 ⟨p, c, rfl, hown, hn1⟩
  have d1 := (hn1.cell g 0 hg).trans c1
  have d2 := (hn1.cell g 1 hg).trans c2
  have hB1 := hid (H1.out.later hn1)
  go_wp2
  refine wp_loop_rounds 3 ?_
  rw [rounds_succ]
  go_wp2_with (at_builtin; refine app_all rfl _ _ rfl w.heap.size _ 0 [] rfl hown _ s1 rfl hB1.out ?ca ?cb ?_)
  case ca => omega
  case cb => exact hn1.size
  intro v2 w2 own2 grow2 _
  obtain ⟨p3, k3, rfl⟩ : ∃ A k, v2 = .slice A (s1.size) k := by
    rcases own2.2 with ⟨rfl, e⟩ | ⟨g, cap, cur, rfl, _⟩
    · exact ⟨_, _, by rw [e]⟩
    · exact ⟨_, _, rfl⟩
  have hn2 : New w w2 := hn1.grown grow2 hn1.size (fun k hk => (hown.lt k hk).1)
  have e1 := (hn2.cell g 0 hg).trans c1
  have e2 := (hn2.cell g 1 hg).trans c2
  have hB2 := hid (H2.out.later hn2)
  have OWN2 := hid own2
  clear own2
  go_wp2
  rw [rounds_succ]
  go_wp2_with (at_builtin; refine app_all rfl _ _ rfl w.heap.size _ (s1.size) _ rfl OWN2.out _ s2 rfl hB2.out ?ca ?cb ?_)
  case ca => omega
  case cb => exact hn2.size
  intro v3 w3 own3 grow3 _
  obtain ⟨p4, k4, rfl⟩ : ∃ A k, v3 = .slice A (s1.size + s2.size) k := by
    rcases own3.2 with ⟨rfl, e⟩ | ⟨g, cap, cur, rfl, _⟩
    · exact ⟨_, _, by rw [e]⟩
    · exact ⟨_, _, rfl⟩
  have hn3 : New w w3 := hn2.grown grow3 hn2.size (fun k hk => (OWN2.out.lt k hk).1)
  have OWN3 := hid own3
  clear own3
  go_wp2
  rw [rounds_succ]
  go_wp2
  go_ret
  have hsz : (s1 ++ s2).size = s1.size + s2.size := by simp
  have HC : Content w3 (.slice p4 (s1 ++ s2).size k4) (s1 ++ s2) := by rw [hsz]; exact own_content OWN3.out hsz (by rw [byteVals_append])
  rw [hsz] at HC
  refine ⟨p4, k4, ?_, by rw [hsz]; exact HC, hn3⟩
  rw [hsz]
  rfl

theorem byteVals_get (s : ByteArray) (i : Nat) : (byteVals s)[i]? = s.data[i]?.map fun b => .int .u8 b.toNat := by simp [byteVals]
theorem extract_get (s : ByteArray) (a b i : Nat) (h : i < min b s.size - a) : (s.extract a b).data[i]? = s.data[a + i]? := by
  rw [ByteArray.data_extract, Array.getElem?_extract, if_pos (by simpa using h)]
theorem Bytes.take {w : World} {p : Option Addr} {c : Nat} {s : ByteArray} (h : Bytes w (.slice p s.size c) s) (m : Nat) (hm : m ≤ s.size) : Bytes w (.slice p m c) (s.extract 0 m) := by
  obtain ⟨p', c', e, h1, h2, h3⟩ := h
  injection e with e1 _ e2
  subst e1 e2
  have hsz : (s.extract 0 m).size = m := by simp; omega
  refine ⟨p, c, by rw [hsz], by omega, h2, fun h0 => ?_⟩
  obtain ⟨b, o, rfl, hb, hc⟩ := h3 (by omega)
  refine ⟨b, o, rfl, hb, fun i hi => ?_⟩
  rw [byteVals_length, hsz] at hi
  rw [hc i (by rw [byteVals_length]; omega)]
  simp only [List.getD_eq_getElem?_getD, byteVals_get]
  rw [extract_get s 0 m i (by omega), Nat.zero_add]
theorem Bytes.none_left (w : World) (p : Option Addr) (c : Nat) (hc : c ≤ maxLen) : Bytes w (.slice p 0 c) ByteArray.empty := ⟨p, c, rfl, Nat.zero_le _, hc, fun h => absurd h (by decide)⟩
theorem Bytes.drop {w : World} {q : Addr} {c : Nat} {s : ByteArray} (h : Bytes w (.slice (some q) s.size c) s) (m : Nat) (hm : m < s.size) : Bytes w (.slice (some (q.add m)) (s.size - m) (c - m)) (s.extract m s.size) := by
  obtain ⟨p', c', e, h1, h2, h3⟩ := h
  injection e with e1 _ e2
  subst e1 e2
  have hsz : (s.extract m s.size).size = s.size - m := by simp
  refine ⟨_, _, by rw [hsz], by omega, by omega, fun h0 => ?_⟩
  obtain ⟨b, o, e, hb, hc⟩ := h3 (by omega)
  injection e with e
  subst e
  refine ⟨b, o + m, by unfold Addr.add; simp, hb, fun i hi => ?_⟩
  rw [byteVals_length, hsz] at hi
  rw [Nat.add_assoc, hc (m + i) (by rw [byteVals_length]; omega)]
  simp only [List.getD_eq_getElem?_getD, byteVals_get]
  rw [extract_get s m s.size i (by omega)]

theorem concat_at (g : Nat) (u1 u2 : Value) (s1 s2 t : ByteArray) (ht : t = s1 ++ s2) (w : World) (h1 : Bytes w u1 s1) (h2 : Bytes w u2 s2) (c1 : w.cell? ⟨g, 0, none⟩ = some u1) (c2 : w.cell? ⟨g, 1, none⟩ = some u2) (hg : g < w.heap.size) (hs1 : s1.size ≤ 1000) (hs2 : s2.size ≤ 1000) :
    Calls Try.prog 22 #[.slice (some ⟨g, 0, none⟩) 2 2] w (ContentBack t w) := by
  subst ht; exact concat_two g u1 u2 s1 s2 w h1 h2 c1 c2 hg hs1 hs2

/-- A write whose first bytes alone came to be. -/
def tornB (old new : ByteArray) (n : Nat) : ByteArray := if new.size ≤ n then new else new.extract 0 n ++ old.extract (min n old.size) old.size

end Go.Proofs.Ytdccbceaajnajaa
