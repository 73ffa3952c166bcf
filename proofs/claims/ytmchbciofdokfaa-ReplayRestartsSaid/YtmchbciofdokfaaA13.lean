/- A region that draws its order and turns nothing of old memory. -/
import Derived.Test.YtmchbciofdokfaaA0
import Derived.Deep.QuietTactic
import Derived.BigQuiet
namespace Go.Proofs.Ytmchbciofdokfaa
open Go.RowKit

theorem quiet_left {P : Program} {f : FuncId} {args : Array Value} {w : World} {n : Nat} {v : Value}
    (h : Calls P f args (w.drewN n) fun e w' => e = .returned v ∧ w.drewN n = w') : Calls P f args (w.drewN n) fun e w'' => e = .returned v ∧ ∃ m, w'' = w.drewN m :=
  h.mono fun _ _ ⟨he, hm⟩ => ⟨he, n, hm.symm⟩
theorem New.drewN {a w : World} (h : New a w) (n : Nat) : New a (w.drewN n) := ⟨h.os, h.tape, h.output, h.size, h.block⟩

/-- A world in which nothing has turned of what W held. -/
structure After (W : World) where
  w : World
  new : New W w

instance (W : World) : Nonempty (After W) := ⟨⟨W, New.refl W⟩⟩

/-- A region that draws its order, whose operations only read old memory or call functions that turn nothing and return one value: one walk in the order of the text. -/
theorem wp_region_new {P : Program} {id : Nat} {Q : Exit → Act → World → Prop} {a : Act} {w : World} {l : List Oper} (hm : P.follows .mixedOrders = true) (hB : Region.lexB .any l.toArray = true)
    (h : wpQuiet P l.toArray (fun w' => ∃ p : After w, w' = p.w) (fun a' => ∀ w', (∃ p : After w, w' = p.w) → Q .normal a' w') l a) : (Code.region id l.toArray true).wp P Q a w :=
  wp_region_quiet (C := fun w' => ∃ p : After w, w' = p.w) hm hB ⟨⟨w.drew, (New.refl w).drew⟩, rfl⟩ (by simpa using h)
theorem calls_after {P : Program} {f : FuncId} {args : Array Value} {W : World} {p : After W} {v : Value} (h : Calls P f args p.w fun e w' => e = .returned v ∧ New p.w w') :
    Calls P f args p.w fun e w'' => e = .returned v ∧ ∃ q : After W, w'' = q.w :=
  h.mono fun _ w'' ⟨he, hn⟩ => ⟨he, ⟨w'', p.new.trans hn⟩, rfl⟩
theorem calls_after_same {P : Program} {f : FuncId} {args : Array Value} {W : World} {p : After W} {v : Value} (h : Calls P f args p.w fun e w' => e = .returned v ∧ p.w = w') :
    Calls P f args p.w fun e w'' => e = .returned v ∧ ∃ q : After W, w'' = q.w :=
  h.mono fun _ _ ⟨he, hn⟩ => ⟨he, p, hn.symm⟩

end Go.Proofs.Ytmchbciofdokfaa
