/- The reckoner with memory: a call without arguments that returns true. -/
import Derived.Test.YtommoodcdkjggabGreatDoorCo17
import Derived.Below
set_option linter.unusedVariables false
set_option linter.unusedSectionVars false
namespace Go.CO
variable [LG] [HK]
open Go.RowKit
theorem Known.start {P : Program} {f : FuncId} {b : Bool} (hk : Known P f .nil (.bo b)) (W : World) : Calls P f #[] W fun e W' => e = .returned (.bool b) ∧ Below W.heap.size W W' := by
  obtain ⟨_, h', _, _, hc⟩ := hk
  have hat : ∀ p : Ix, T.at p (T.lf : T HB) = none := by
    intro p; induction p with
    | e => rfl
    | l p ih => exact ih
    | r p ih => exact ih
  have hget : ∀ k, h0.get k = .dead := fun k => by simp only [Hp.get, h0, T.get, hat]
  have S : Sim W.heap.size (fun _ => none) h0 W := ⟨fun k i e => (by cases e), fun k i e => (by cases e), fun k _ => hget k, fun k i e => (by cases e), fun k k' i i' e => (by cases e)⟩
  refine Calls.mono (hc W.heap.size (fun _ => none) W [] (Nat.le_refl _) S (VRL.nil _)) ?_
  rintro e w' ⟨rv, ι', rfl, _, _, _, hr, hE⟩
  refine ⟨?_, ⟨hE.os, hE.tape, hE.output, hE.size, hE.block⟩⟩
  cases hr
  rfl
theorem funcOk_plan {P : Program} {E E' : Env} (h : E'.plan = E.plan) (f : FuncId) : funcOk P E' f = funcOk P E f := by
  unfold funcOk; rw [h]
/-- Ranges over functions hold code that the orders fit. -/
abbrev lgOf (pl : FuncId → Nat → Option (List Stp)) : LG := ⟨fun f n ps as bd => rangeOk (pl f) n ps as bd = true⟩
/-- What does not turn on the memo. -/
structure Base (P : Program) (pl : FuncId → Nat → Option (List Stp)) (pr : PrimX) : Prop where
  goods : Goods pl
  orders : P.follows .mixedOrders = true
  prim : ∀ f args r, pr f args = some r → PrimW P f args r
  func : ∀ f, funcOk P (Env.mk pl pr (memoOf []) 0) f = true
theorem Base.mk' {P : Program} {pl : FuncId → Nat → Option (List Stp)} {prim : PrimX} (h0 : Goods pl) (h1 : P.follows .mixedOrders = true) (h2 : ∀ f args r, prim f args = some r → PrimW P f args r) (h3 : (List.range P.funcs.size).all (funcOk P ⟨pl, prim, memoOf [], 0⟩) = true) : Base P pl prim := ⟨h0, h1, h2, fun f => by
  by_cases h : f < P.funcs.size
  · exact List.all_eq_true.1 h3 f (List.mem_range.2 h)
  · unfold funcOk
    rw [Array.getElem?_eq_none (Nat.not_lt.1 h)]⟩
theorem Base.ok {P : Program} {pl : FuncId → Nat → Option (List Stp)} {prim : PrimX} (b : Base P pl prim) {M : Memo} (hM : KnownAll P M) {n : Nat} : EnvOk P ⟨pl, prim, memoOf M, n⟩ := ⟨b.goods, b.orders, b.prim, fun f => (funcOk_plan rfl f).trans (b.func f), fun f => hM.of f⟩
end Go.CO
