/- What the maker of tape.Encode does: number, small, text, for what is in range. -/
import Derived.Test.YtmchbciofdokfaaA6
namespace Go.Proofs.Ytmchbciofdokfaa
open Go.RowKit

def u8s (s : List UInt8) : List Value := s.map fun x => .int .u8 x.toNat
theorem u8s_append (s t : List UInt8) : u8s (s ++ t) = u8s s ++ u8s t := by simp [u8s]
theorem u8s_bytes (s : List UInt8) : byteVals (bytesOf s) = u8s s := by simp [byteVals, bytesOf, u8s]
theorem u8s_length (s : List UInt8) : (u8s s).length = s.length := by simp [u8s]
theorem u8s_one (s : List UInt8) : ∀ u ∈ u8s s, u.oneCell' = true := by
  intro u hu
  simp only [u8s, List.mem_map] at hu
  obtain ⟨x, _, rfl⟩ := hu
  rfl

theorem app_bytes {ops : Array Oper} {rest : List Oper} {o : Oper} {a : Act} {w : World} {Q : Exit → Act → World → Prop} (hgd : o.guard = none) (sl x : Operand)
    (ho : o.op = .call { callee := .builtin .append, args := #[sl, x], argTypes := #[33, 33] }) (base : Nat)
    (v : Value) (n : Nat) (xs : List Value) (hs : a.eval sl = v) (hown : w.ownsRow base 5 1 v n xs) (u : Value) (hx : a.eval x = u) (s : List UInt8) (hu : Bytes w u (bytesOf s)) (hpos : 0 < s.length)
    (hb : n + s.length ≤ 140737488355328) (hbase : base ≤ w.heap.size)
    (h : ∀ v' w', w'.ownsRow base 5 1 v' (n + s.length) (xs ++ u8s s) → w.grownBy w' v.ownBlock → wpList Try.prog ops Q rest (a.put o.dst v') w') : wpList Try.prog ops Q (o :: rest) a w := by
  obtain ⟨i0, hi, hz0, hz1, hz2⟩ := info_parts info5
  obtain ⟨p, c, rfl, h1, h2, h3⟩ := hu
  rw [u8s_bytes, bytesOf_size, u8s_length] at h3
  rw [bytesOf_size] at hx h1
  obtain ⟨b, off, rfl, hb', hc⟩ := h3 hpos
  exact wpList_append_own w hgd sl x 33 ho base 5 i0 _ 1 1 Try.underlying33 hi hz0 hz1 hz2 rfl (by decide) v n xs hs hown ⟨b, off, none⟩ s.length c (u8s s) hx (by rw [u8s_length]; omega)
    (fun j u hj => by
      have hjl : j < s.length := by
        have := (List.getElem?_eq_some_iff.1 hj).1
        rwa [u8s_length] at this
      have e : (⟨b, off, none⟩ : Addr).add j = ⟨b, off + j, none⟩ := by unfold Addr.add; split <;> simp_all
      rw [e, hc j hjl]
      simp [List.getD_eq_getElem?_getD, hj]) (u8s_one s) (by unfold maxLen; omega) (by omega) hbase fun v' w' h1 h2 _ => h v' w' h1 h2

theorem own_slice {w : World} {base : Nat} {e : TypeId} {size : Nat} {v : Value} {n : Nat} {xs : List Value} (h : w.ownsRow base e size v n xs) : ∃ A k c, v = .slice A k c := by
  rcases h.2 with ⟨rfl, _⟩ | ⟨g, cap, cur, rfl, _⟩
  · exact ⟨_, _, _, rfl⟩
  · exact ⟨_, _, _, rfl⟩
theorem own_from {w : World} {base : Nat} {e : TypeId} {size : Nat} {v : Value} {n : Nat} {xs : List Value} (h : w.ownsRow base e size v n xs) : ∀ k, v.ownBlock = some k → base ≤ k := fun k hk => (h.lt k hk).1
end Go.Proofs.Ytmchbciofdokfaa
