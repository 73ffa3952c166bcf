/- slices.Clone at []byte and at []disk.write, for all slices: what it returns has the same elements, in new memory. -/
import Derived.Test.YtmchbciofdokfaaA6
import Derived.Test.YtmchbciofdokfaaA7
import Derived.Test.YtmchbciofdokfaaD1
import Derived.Maps.AppendAt
namespace Go.Proofs.Ytmchbciofdokfaa
open Go.RowKit
set_option linter.unusedSimpArgs false
set_option linter.unusedVariables false

/-- New bytes come back, in a block of bytes of their own. -/
def ContentBack (s : ByteArray) (w : World) (e : Ending) (w' : World) : Prop := ∃ p c, e = .returned (.slice p s.size c) ∧ Content w' (.slice p s.size c) s ∧ New w w'

theorem bytes_u8s (s : ByteArray) : byteVals s = u8s s.data.toList := rfl
theorem bytesOf_data (s : ByteArray) : bytesOf s.data.toList = s := by simp [bytesOf]
theorem own_content {w : World} {base : Nat} {v : Value} {n : Nat} {xs : List Value} {s : ByteArray} (h : w.ownsRow base 5 1 v n xs) (hn : s.size = n) (hx : byteVals s = xs) : Content w v s := by
  refine ⟨own_bytes h hn hx, fun k hk => ?_⟩
  rcases h.2 with ⟨rfl, _⟩ | ⟨g, cap, cur, rfl, _, hg, _⟩
  · simp [Value.ownBlock] at hk
  · simp only [Value.ownBlock, Option.some.injEq] at hk
    subst hk
    exact ⟨_, _, hg⟩

set_option maxRecDepth 10000 in
/-- append(row, s...): also where s has no element. -/
theorem app_any {ops : Array Oper} {rest : List Oper} {o : Oper} {a : Act} {w : World} {Q : Exit → Act → World → Prop} (hgd : o.guard = none) (sl x : Operand)
    (ho : o.op = .call { callee := .builtin .append, args := #[sl, x], argTypes := #[33, 33] }) (base : Nat)
    (v : Value) (n : Nat) (xs : List Value) (hs : a.eval sl = v) (hown : w.ownsRow base 5 1 v n xs) (q : Addr) (c : Nat) (s : ByteArray) (hx : a.eval x = .slice (some q) s.size c) (hu : Bytes w (.slice (some q) s.size c) s)
    (hb : n + s.size ≤ 140737488355328) (hbase : base ≤ w.heap.size)
    (h : ∀ v' w', w'.ownsRow base 5 1 v' (n + s.size) (xs ++ byteVals s) → w.grownBy w' v.ownBlock → (v'.ownBlock = v.ownBlock ∨ v'.ownBlock = some w.heap.size) → wpList Try.prog ops Q rest (a.put o.dst v') w') : wpList Try.prog ops Q (o :: rest) a w := by
  obtain ⟨i0, hi, hz0, hz1, hz2⟩ := info_parts info5
  obtain ⟨p, c', e, h1, h2, h3⟩ := hu
  have hl := byteVals_length s
  refine wpList_append_own_at w hgd sl x 33 ho base 5 i0 _ 1 1 Try.underlying33 hi hz0 hz1 hz2 rfl (by decide) v n xs hs hown q s.size c (byteVals s) hx (by rw [hl]; omega) (fun j u hj => ?_) (by rw [bytes_u8s]; exact u8s_one _) (by unfold maxLen; omega) (by omega) hbase fun v' w' h1 h2 _ h4 => h v' w' h1 h2 h4
  have hjl : j < s.size := by
    have := (List.getElem?_eq_some_iff.1 hj).1
    rwa [hl] at this
  obtain ⟨b, off, rfl, hb', hc⟩ := h3 (by omega)
  injection e with e _ _
  injection e with e
  subst e
  have e : (⟨b, off, none⟩ : Addr).add j = ⟨b, off + j, none⟩ := by unfold Addr.add; split <;> simp_all
  rw [e, hc j (by rw [hl]; exact hjl)]
  simp [List.getD_eq_getElem?_getD, hj]

set_option maxHeartbeats 800000 in
theorem cloneBytes_any (v : Value) (s : ByteArray) (w : World) (h : Bytes w v s) (hs : s.size ≤ 140737488351232) : Calls Try.prog 38 #[v] w (ContentBack s w) := by
  have h' := h
  obtain ⟨p, c, rfl, h1, h2, h3⟩ := h
  cases p with
  | none =>
    have hz : s.size = 0 := by
      rcases Nat.eq_zero_or_pos s.size with h | h
      · exact h
      · obtain ⟨b, o, e, _⟩ := h3 h
        cases e
    have he : s = ByteArray.empty := ByteArray.ext (Array.eq_empty_of_size_eq_zero hz)
    have hq := fun (w : World) => Lib.run_eql_slice_nil (P := Try.prog) w 33 5 none s.size c 0 0 Try.underlying33
    have HZ := hid hz
    have HE := hid he
    clear hz he hs h3 h'
    go_enter Try.func38, Try.ntmps38
    go_wp2
    go_ret
    refine ⟨none, 0, ?_, ?_, New.refl w⟩
    · rw [HZ.out]; rfl
    · rw [HZ.out, HE.out]; exact Content.nil w
  | some q =>
    have hq := fun (w : World) => Lib.run_eql_slice_nil (P := Try.prog) w 33 5 (some q) s.size c 0 0 Try.underlying33
    have hb := (h' : Bytes w _ s)
    have hb1 : Bytes (w.alloc (.cells #[] 5)) (.slice (some q) s.size c) s := RowAt.new h' ((New.refl w).alloc _ _)
    have HB := hid hb1
    clear hb1 h3 hb h'
    go_enter Try.func38, Try.ntmps38
    go_wp2_with (at_builtin; refine app_any rfl _ _ rfl w.heap.size _ 0 [] rfl (World.ownsRow_lit w #[] 0 (Nat.le_refl _) (by decide) rfl) q c s rfl HB.out ?c1 ?c2 ?_)
    case c1 => omega
    case c2 => simp
    intro v' w' hown hg hblk
    obtain ⟨A, k, rfl⟩ : ∃ A k, v' = .slice A s.size k := by
      rcases hown.2 with ⟨rfl, e⟩ | ⟨g, cap, cur, rfl, _⟩
      · exact ⟨_, _, by rw [e]⟩
      · exact ⟨_, _, rfl⟩
    go_wp2
    go_ret
    exact ⟨A, k, rfl, own_content hown rfl rfl, ((New.refl w).alloc _ _).grown hg (by simp) (by simp [Value.ownBlock])⟩

end Go.Proofs.Ytmchbciofdokfaa
