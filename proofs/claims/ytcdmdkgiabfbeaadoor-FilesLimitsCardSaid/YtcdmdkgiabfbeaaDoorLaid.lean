/-
  Out of a row's condition: the cell of errors.errorType; a world that meets it; the memory that is known when a law begins. After the guide's worked example ToyasProofs.lean.
-/
import Derived.Test.YtcdmdkgiabfbeaaDoorRows
import Derived.Test.YtcdmdkgiabfbeaaDoorAwake
import Derived.ChangeSame
import Derived.ChangeVars
import Derived.JoinedOf
import Derived.RowKit
import Derived.RowKitTokens
import Derived.LaidLaws
import Derived.LaidHandle
import Derived.Stop.Joined
namespace Go.Proofs.YtcdmdkgiabfbeaaDoor
open Go.ChangeShapes Go.WideShapes Go.RowKit

theorem la_own : ownKnob Tryd.prog.godebug = none := by kernel_rfl
theorem la_et : Tryd.prog.globalNamed "errors.errorType" = some 0 := by kernel_rfl
theorem la_rt : (Tryd.prog.cutTypes.find? (·.1 == "internal/reflectlite.rtype")).map (·.2) = some 122 := by kernel_rfl
theorem la_oneRow : ((List.range 185).filter fun t => Tryd.prog.rowNamed t [101, 114, 114, 111, 114]) = [64] := by kernel_rfl
theorem la_size : Tryd.prog.types.size = 185 := by kernel_rfl

def laidL : List (String × DataW Unit) := [("errors.errorType", Rows.laid_errors_errorType)]

theorem handle_of_laid {W : World} (h : laidMetH Tryd.prog laidL W) : W.cell? ⟨0, 0, none⟩ = some (.iface 122 (.agg #[.pointer (some ⟨2, 64, none⟩)])) := by
  have h' : laidMet Tryd.prog [] W ∧ handlesMet Tryd.prog laidL W := h
  obtain ⟨name, u, ty, e1, e2, e3, e4, e5⟩ := h'.2 _ (List.mem_singleton.2 rfl)
  have en : name = [101, 114, 114, 111, 114] := (Option.some.inj e1).symm
  subst en
  obtain rfl := Option.some.inj (la_rt.symm.trans e2)
  have hm : ty ∈ (List.range 185).filter fun t => Tryd.prog.rowNamed t [101, 114, 114, 111, 114] := List.mem_filter.2 ⟨List.mem_range.2 (by rw [← la_size]; exact e3), e4⟩
  rw [la_oneRow] at hm
  obtain rfl := List.mem_singleton.1 hm
  have hh : typeHandle Tryd.prog 64 = .pointer (some ⟨2, 64, none⟩) := by kernel_rfl
  rw [hh] at e5
  simpa using World.var?_cell la_et e5 0

/-- All that a world holds. -/
def memOf (W : World) : Mem := fun b => W.heap[b]?
theorem has_memOf (W : World) : Has W (memOf W) := fun _ _ h => h

theorem glob_of_laid {W : World} (h : laidMetH Tryd.prog laidL W) : GlobOk (memOf W) := by
  have hc := handle_of_laid h
  unfold World.cell? at hc
  cases ho : W.heap[0]? with
  | none => rw [ho] at hc; cases hc
  | some o =>
    rw [ho] at hc
    cases o with
    | cells c e fz => exact ⟨c, e, fz, ho, by simpa using hc⟩
    | _ => simp at hc

theorem below_of {W w' : World} {m' : Mem} (l : (memOf W).le m') (h : Has w' m') (n : Env W w') : Below W.heap.size W w' := by
  have key : ∀ k, k < W.heap.size → w'.heap[k]? = W.heap[k]? := fun k hk => by
    rw [Array.getElem?_eq_getElem hk]
    exact h _ _ (l k _ (Array.getElem?_eq_getElem hk))
  refine ⟨n.os, n.tape, n.output, ?_, key⟩
  rcases Nat.eq_zero_or_pos W.heap.size with h0 | h0
  · omega
  · have h2 := key (W.heap.size - 1) (by omega)
    have h3 : W.heap[W.heap.size - 1]? = some W.heap[W.heap.size - 1] := Array.getElem?_eq_getElem (by omega)
    rw [h3] at h2
    have := (Array.getElem?_eq_some_iff.1 h2).1
    omega

/-- A world that meets the condition: the settled one, the variable's cell laid. -/
noncomputable def laidWorld (os : Os) : World :=
  let w0 := World.holding Tryd.prog os ⟨#[], #[], []⟩
  { w0 with heap := w0.heap.modify 0 fun
      | .cells _ t frozen => .cells #[.iface 122 (.agg #[.pointer (some ⟨2, 64, none⟩)])] t frozen
      | o => o }
theorem laidWorld_met (os : Os) (args : Array Value) : laidMetH Tryd.prog laidL ((laidWorld os).forCall (fun _ _ => 0) ⟨#[], args, []⟩).memory :=
  laidMetH_of_parts (laidMet_nil _ _) (by kernel_rfl)
end Go.Proofs.YtcdmdkgiabfbeaaDoor
