/-
  The walk's laws for an operation of which one knows what its run comes to: a builtin of two arguments, a map's update; in a plain region and at a step of one that draws its order.
-/
import Derived.WalkKit
namespace Go.Proofs.YtcdmdkgiabfbeaaDoor
open Go.RowKit

section
variable {P : Program} {o : Oper} {a : Act} {w : World} {K : Act → World → Prop} {Q : Exit → Act → World → Prop} {ops : Array Oper} {rest : List Oper}

theorem wp_b2 (b : Builtin) (F : Array TypeId → TypeId → Array Value → Sem Value) (hb : ∀ t ty c x, builtin b t ty c x = (do pure (Next.value (← F t ty x)))) (s x : Operand) (t u : TypeId)
    (ho : o.op = .call { callee := .builtin b, args := #[s, x], argTypes := #[t, u] }) {vs vx v' : Value} {w' : World} (hs : a.eval s = vs) (hx : a.eval x = vx)
    (hrun : (F #[t, u] o.type #[vs, vx]).run P w = .ok v' w') (h : K (a.put o.dst v') w') : o.wp P a w K Q := by
  unfold Oper.wp execOp
  simp only [ho, resolve, invoke, hb, Sem.run_bind, Sem.run_pure, Result.andThen_ok, List.map_toArray, List.map_cons, List.map_nil, hs, hx, hrun]
  exact h

theorem wpList_b2 (hgd : o.guard = none) (b : Builtin) (F : Array TypeId → TypeId → Array Value → Sem Value) (hb : ∀ t ty c x, builtin b t ty c x = (do pure (Next.value (← F t ty x)))) (s x : Operand) (t u : TypeId)
    (ho : o.op = .call { callee := .builtin b, args := #[s, x], argTypes := #[t, u] }) {vs vx v' : Value} {w' : World} (hs : a.eval s = vs) (hx : a.eval x = vx)
    (hrun : (F #[t, u] o.type #[vs, vx]).run P w = .ok v' w') (h : wpList P ops Q rest (a.put o.dst v') w') : wpList P ops Q (o :: rest) a w :=
  wpList_plain hgd fun _ hK => wp_b2 b F hb s x t u ho hs hx hrun (hK _ _ h)

theorem step_b2 {E : Prop} (hgd : o.guard = none) (b : Builtin) (F : Array TypeId → TypeId → Array Value → Sem Value) (hb : ∀ t ty c x, builtin b t ty c x = (do pure (Next.value (← F t ty x)))) (s x : Operand) (t u : TypeId)
    (ho : o.op = .call { callee := .builtin b, args := #[s, x], argTypes := #[t, u] }) {vs vx v' : Value} {w' : World} (hs : a.eval s = vs) (hx : a.eval x = vx)
    (hrun : (F #[t, u] o.type #[vs, vx]).run P w = .ok v' w') (h : K (a.put o.dst v') w') : if Region.wanted o (yielded ops a.tmps) = true then Oper.wp P o a w K Q else E := by
  have hw : Region.wanted o (yielded ops a.tmps) = true := by simp [Region.wanted, hgd]
  rw [if_pos hw]
  exact wp_b2 b F hb s x t u ho hs hx hrun h

theorem wp_upd (T : TypeId) (mo ko xo : Operand) (ho : o.op = .mapUpdate T mo ko xo) {vm vk vx : Value} {w' : World} (hm : a.eval mo = vm) (hk : a.eval ko = vk) (hx : a.eval xo = vx)
    (hrun : (Instr.mapUpdate T vm vk vx).run P w = .ok () w') (h : K (a.put o.dst undef) w') : o.wp P a w K Q := by
  unfold Oper.wp execOp
  simp only [ho, Sem.run_bind, Sem.run_pure, Result.andThen_ok, hm, hk, hx, hrun]
  exact h

theorem wpList_upd (hgd : o.guard = none) (T : TypeId) (mo ko xo : Operand) (ho : o.op = .mapUpdate T mo ko xo) {vm vk vx : Value} {w' : World} (hm : a.eval mo = vm) (hk : a.eval ko = vk) (hx : a.eval xo = vx)
    (hrun : (Instr.mapUpdate T vm vk vx).run P w = .ok () w') (h : wpList P ops Q rest (a.put o.dst undef) w') : wpList P ops Q (o :: rest) a w :=
  wpList_plain hgd fun _ hK => wp_upd T mo ko xo ho hm hk hx hrun (hK _ _ h)

theorem step_upd {E : Prop} (hgd : o.guard = none) (T : TypeId) (mo ko xo : Operand) (ho : o.op = .mapUpdate T mo ko xo) {vm vk vx : Value} {w' : World} (hm : a.eval mo = vm) (hk : a.eval ko = vk) (hx : a.eval xo = vx)
    (hrun : (Instr.mapUpdate T vm vk vx).run P w = .ok () w') (h : K (a.put o.dst undef) w') : if Region.wanted o (yielded ops a.tmps) = true then Oper.wp P o a w K Q else E := by
  have hw : Region.wanted o (yielded ops a.tmps) = true := by simp [Region.wanted, hgd]
  rw [if_pos hw]
  exact wp_upd T mo ko xo ho hm hk hx hrun h
end
end Go.Proofs.YtcdmdkgiabfbeaaDoor
