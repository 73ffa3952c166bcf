/- What the maker of tape.Encode does: number, small, text, for what is in range. -/
import Derived.Test.YtbclgklpcbajfaaA6
namespace Go.Proofs.Ytbclgklpcbajfaa
open Go.RowKit

def u8s (s : List UInt8) : List Value := s.map fun x => .int .u8 x.toNat
theorem u8s_append (s t : List UInt8) : u8s (s ++ t) = u8s s ++ u8s t := by simp [u8s]
theorem u8s_bytes (s : List UInt8) : byteVals (bytesOf s) = u8s s := by simp [byteVals, bytesOf, u8s]
theorem u8s_length (s : List UInt8) : (u8s s).length = s.length := by simp [u8s]
theorem u8s_one (s : List UInt8) : ∀ u ∈ u8s s, u.oneCell' = true := by
  intro u hu
  simp only [u8s, List.mem_map] at hu
  obtain ⟨x, _, rfl⟩ := hu
  rfl

/-- The maker at block bm has these bytes. -/
def Maker (w : World) (bm : Nat) (s : List UInt8) : Prop :=
  ∃ v, w.heap[bm]? = some (.cells #[v] 122 (0, 0)) ∧ w.ownsRow (bm + 1) 5 1 v s.length (u8s s)

theorem Maker.below {w w' : World} {bm : Nat} {s : List UInt8} (h : Maker w bm s) (hb : New w w') : Maker w' bm s := by
  obtain ⟨v, h1, h2⟩ := h
  refine ⟨v, by rw [Below.block hb bm (Array.getElem?_eq_some_iff.1 h1).1]; exact h1, h2.1, ?_⟩
  rcases h2.2 with h3 | ⟨g, cap, cur, e, hg, hh, r⟩
  · exact .inl h3
  · exact .inr ⟨g, cap, cur, e, hg, by rw [Below.block hb g (Array.getElem?_eq_some_iff.1 hh).1]; exact hh, r⟩

theorem app_bytes {ops : Array Oper} {rest : List Oper} {o : Oper} {a : Act} {w : World} {Q : Exit → Act → World → Prop} (hgd : o.guard = none) (sl x : Operand)
    (ho : o.op = .call { callee := .builtin .append, args := #[sl, x], argTypes := #[22, 22] }) (base : Nat)
    (v : Value) (n : Nat) (xs : List Value) (hs : a.eval sl = v) (hown : w.ownsRow base 5 1 v n xs) (u : Value) (hx : a.eval x = u) (s : List UInt8) (hu : Bytes w u (bytesOf s)) (hpos : 0 < s.length)
    (hb : n + s.length ≤ 140737488355328) (hbase : base ≤ w.heap.size)
    (h : ∀ v' w', w'.ownsRow base 5 1 v' (n + s.length) (xs ++ u8s s) → w.grownBy w' v.ownBlock → wpList Try.prog ops Q rest (a.put o.dst v') w') : wpList Try.prog ops Q (o :: rest) a w := by
  obtain ⟨i0, hi, hz0, hz1, hz2⟩ := info_parts info5
  obtain ⟨p, c, rfl, h1, h2, h3⟩ := hu
  rw [u8s_bytes, bytesOf_size, u8s_length] at h3
  rw [bytesOf_size] at hx h1
  obtain ⟨b, off, rfl, hb', hc⟩ := h3 hpos
  exact wpList_append_own w hgd sl x 22 ho base 5 i0 _ 1 1 Try.underlying22 hi hz0 hz1 hz2 rfl (by decide) v n xs hs hown ⟨b, off, none⟩ s.length c (u8s s) hx (by rw [u8s_length]; omega)
    (fun j u hj => by
      have hjl : j < s.length := by
        have := (List.getElem?_eq_some_iff.1 hj).1
        rwa [u8s_length] at this
      have e : (⟨b, off, none⟩ : Addr).add j = ⟨b, off + j, none⟩ := by unfold Addr.add; split <;> simp_all
      rw [e, hc j hjl]
      simp [List.getD_eq_getElem?_getD, hj]) (u8s_one s) (by unfold maxLen; omega) (by omega) hbase fun v' w' h1 h2 _ => h v' w' h1 h2

/-- A maker has more bytes; what lay below it lies as it lay. -/
def MakerBack (bm : Nat) (s : List UInt8) (w : World) (e : Ending) (w' : World) : Prop := e = .returned (.tuple #[]) ∧ Maker w' bm s ∧ Below bm w w' ∧ bm < w'.heap.size

theorem maker_store {w w1 w2 : World} {bm : Nat} {v v' : Value} {s t : List UInt8} (hm : w1.heap[bm]? = some (.cells #[v] 122 (0, 0))) (hv : ∀ k, v.ownBlock = some k → bm + 1 ≤ k)
    (hb : Below bm w w1) (hown : w2.ownsRow (bm + 1) 5 1 v' (s.length + t.length) (u8s s ++ u8s t)) (hg : w1.grownBy w2 v.ownBlock) :
    MakerBack bm (s ++ t) w (.returned (.tuple #[])) (w2.setCell ⟨bm, 0, none⟩ v') := by
  have hlt := (Array.getElem?_eq_some_iff.1 hm).1
  have h2 : w2.heap[bm]? = some (.cells #[v] 122 (0, 0)) := by
    rw [hg.block bm hlt (fun e => by have := hv bm e.symm; omega)]; exact hm
  refine ⟨rfl, ⟨v', ?_, ?_⟩, ?_, ?_⟩
  · exact heap_setCell_same w2 bm 0 #[v] 122 v' h2
  · rw [u8s_append, List.length_append]
    exact ownsRow_setCell_below hown (by show bm < bm + 1; omega) v'
  · exact (hb.grown hg (by omega) (fun k hk => by have := hv k hk; omega)).setCell (Nat.le_refl _) _
  · have := hg.size; simp [World.setCell]; omega

theorem maker_cell {w : World} {bm : Nat} {v : Value} (h : w.heap[bm]? = some (.cells #[v] 122 (0, 0))) : w.cell? ⟨bm, 0, none⟩ = some v ∧ w.frozen? ⟨bm, 0, none⟩ = false :=
  ⟨by simp only [World.cell?, h]; rfl, by simp only [World.frozen?, h]; simp⟩

theorem own_slice {w : World} {base : Nat} {e : TypeId} {size : Nat} {v : Value} {n : Nat} {xs : List Value} (h : w.ownsRow base e size v n xs) : ∃ A k c, v = .slice A k c := by
  rcases h.2 with ⟨rfl, _⟩ | ⟨g, cap, cur, rfl, _⟩
  · exact ⟨_, _, _, rfl⟩
  · exact ⟨_, _, _, rfl⟩
theorem own_from {w : World} {base : Nat} {e : TypeId} {size : Nat} {v : Value} {n : Nat} {xs : List Value} (h : w.ownsRow base e size v n xs) : ∀ k, v.ownBlock = some k → base ≤ k := fun k hk => (h.lt k hk).1
theorem maker_later {w1 w2 : World} {bm : Nat} {v : Value} (hm : w1.heap[bm]? = some (.cells #[v] 122 (0, 0))) (hv : ∀ k, v.ownBlock = some k → bm + 1 ≤ k) (hg : w1.grownBy w2 v.ownBlock) :
    w2.cell? ⟨bm, 0, none⟩ = some v ∧ w2.frozen? ⟨bm, 0, none⟩ = false := by
  have hlt := (Array.getElem?_eq_some_iff.1 hm).1
  exact maker_cell (by rw [hg.block bm hlt (fun e => by have := hv bm e.symm; omega)]; exact hm)

set_option maxHeartbeats 800000 in
theorem makerNumber (bm : Nat) (n : Int) (s : List UInt8) (w : World) (h0 : 0 ≤ n) (h1 : n ≤ 4294967295) (hs : s.length ≤ 100000) (hm : Maker w bm s) :
    Calls Try.prog 95 #[.pointer (some ⟨bm, 0, none⟩), .int .i64 n] w (MakerBack bm (s ++ numB n) w) := by
  have hb : bm < w.heap.size := by obtain ⟨v, h, _⟩ := hm; exact (Array.getElem?_eq_some_iff.1 h).1
  go_enter Try.func95, Try.ntmps95
  go_wp2_with fail
  refine (octNumber_yes n _ h0 h1).mono ?_
  rintro e w1 ⟨u, rfl, hu, hn⟩
  obtain ⟨v, m1, m2⟩ := hm.below hn
  obtain ⟨c1, f1⟩ := maker_cell m1
  have hlt := (Array.getElem?_eq_some_iff.1 m1).1
  go_wp2_with (at_builtin; refine app_bytes rfl _ _ rfl (bm + 1) _ _ _ rfl m2 _ rfl (numB n) hu (by simp [numB]) ?c1 ?c2 ?_)
  case c1 => simp [numB]; omega
  case c2 => omega
  intro v' w2 hown hg
  obtain ⟨c3, f3⟩ := maker_later m1 (own_from m2) hg
  obtain ⟨A', k', c', rfl⟩ := own_slice hown
  go_wp2
  go_end0
  exact maker_store m1 (own_from m2) (Below.mono hn (by omega)) hown hg

set_option maxHeartbeats 800000 in
theorem makerSmall (bm : Nat) (n : Int) (s : List UInt8) (w : World) (h0 : 0 ≤ n) (h1 : n ≤ 255) (hs : s.length ≤ 100000) (hm : Maker w bm s) :
    Calls Try.prog 96 #[.pointer (some ⟨bm, 0, none⟩), .int .i64 n] w (MakerBack bm (s ++ [UInt8.ofNat n.toNat]) w) := by
  have hb : bm < w.heap.size := by obtain ⟨v, h, _⟩ := hm; exact (Array.getElem?_eq_some_iff.1 h).1
  go_enter Try.func96, Try.ntmps96
  go_wp2_with fail
  refine (octSmall_yes n _ h0 h1).mono ?_
  rintro e w1 ⟨u, rfl, hu, hn⟩
  obtain ⟨v, m1, m2⟩ := hm.below hn
  obtain ⟨c1, f1⟩ := maker_cell m1
  have hlt := (Array.getElem?_eq_some_iff.1 m1).1
  go_wp2_with (at_builtin; refine app_bytes rfl _ _ rfl (bm + 1) _ _ _ rfl m2 _ rfl ([UInt8.ofNat n.toNat]) hu (by simp) ?c1 ?c2 ?_)
  case c1 => simp; omega
  case c2 => omega
  intro v' w2 hown hg
  obtain ⟨c3, f3⟩ := maker_later m1 (own_from m2) hg
  obtain ⟨A', k', c', rfl⟩ := own_slice hown
  go_wp2
  go_end0
  exact maker_store m1 (own_from m2) (Below.mono hn (by omega)) hown hg

set_option maxHeartbeats 800000 in
theorem makerText (bm : Nat) (t : ByteArray) (s : List UInt8) (w : World) (h1 : t.size ≤ 255) (hs : s.length ≤ 100000) (hm : Maker w bm s) :
    Calls Try.prog 97 #[.pointer (some ⟨bm, 0, none⟩), .string t] w (MakerBack bm (s ++ (UInt8.ofNat t.size :: t.data.toList)) w) := by
  have hb : bm < w.heap.size := by obtain ⟨v, h, _⟩ := hm; exact (Array.getElem?_eq_some_iff.1 h).1
  go_enter Try.func97, Try.ntmps97
  go_wp2_with fail
  refine (octText_yes t _ h1).mono ?_
  rintro e w1 ⟨u, rfl, hu, hn⟩
  obtain ⟨v, m1, m2⟩ := hm.below hn
  obtain ⟨c1, f1⟩ := maker_cell m1
  have hlt := (Array.getElem?_eq_some_iff.1 m1).1
  go_wp2_with (at_builtin; refine app_bytes rfl _ _ rfl (bm + 1) _ _ _ rfl m2 _ rfl ((UInt8.ofNat t.size :: t.data.toList)) hu (by simp) ?c1 ?c2 ?_)
  case c1 => simp; omega
  case c2 => omega
  intro v' w2 hown hg
  obtain ⟨c3, f3⟩ := maker_later m1 (own_from m2) hg
  obtain ⟨A', k', c', rfl⟩ := own_slice hown
  go_wp2
  go_end0
  exact maker_store m1 (own_from m2) (Below.mono hn (by omega)) hown hg

end Go.Proofs.Ytbclgklpcbajfaa
