/-
  first: the first refusal of some checks.
-/
import Derived.Test.YtcdmdkgiabfbeaaDoorBase
namespace Go.Proofs.YtcdmdkgiabfbeaaDoor
open Go.RowKit

/-- What first answers: x0, if it is a refusal already; else the first that a check gives. -/
def firstOf (x0 : Int) : List (Value × Int × Bool) → Int
  | [] => x0
  | c :: cs => firstOf (if x0 = 0 then (if c.2.2 then c.2.1 else 0) else x0) cs

theorem firstOf_snoc (x0 : Int) (cs : List (Value × Int × Bool)) (c : Value × Int × Bool) :
    firstOf x0 (cs ++ [c]) = if firstOf x0 cs = 0 then (if c.2.2 then c.2.1 else 0) else firstOf x0 cs := by
  induction cs generalizing x0 with
  | nil => rfl
  | cons d cs ih => simp only [List.cons_append, firstOf]; exact ih _

theorem take_snoc {α : Type} (l : List α) (k : Nat) (h : k < l.length) : l.take (k + 1) = l.take k ++ [l[k]] := by
  rw [List.take_succ_eq_append_getElem h]

set_option maxHeartbeats 400000 in
theorem first_any (ev : Value) (x0 : Int) (b : Nat) (cs : List (Value × Int × Bool)) (w : World) (m : Mem) (hm : Has w m) (hev : ErrIs m ev x0)
    (hb : m b = some (.cells (cs.map (·.1)).toArray 70 (0, 0))) (hcs : ∀ c ∈ cs, IsCheck m c.1 c.2.1 c.2.2 ∧ c.2.1 ≠ 0) (hn : cs.length ≤ 100) :
    Calls Tryd.prog 24 #[ev, .slice (some ⟨b, 0, none⟩) cs.length cs.length] w (Post w m fun v m' => ErrIs m' v (firstOf x0 cs)) := by
  have H := Lib.hid hm
  have HE := Lib.hid hev
  have HB := Lib.hid hb
  have HC := Lib.hid hcs
  clear hm hev hb hcs
  go_enter Tryd.func24, Tryd.ntmps24
  go_wp2_with fail
  go_loopw [0, 9] (fun e i wr => ∃ k : Nat, k ≤ cs.length ∧ i = .int .i64 k ∧ ∃ mr, m.le mr ∧ Has wr mr ∧ Env w wr ∧ ErrIs mr e (firstOf x0 (cs.take k))) (fun _ i _ => cs.length - (intOf i).toNat)
  case atStart => exact ⟨0, Nat.zero_le _, rfl, m, Mem.le_refl _, H.out, Env.refl _, by simpa [firstOf] using HE.out⟩
  case round =>
    obtain ⟨k, hk, rfl, mr, lr, hr, nr, er⟩ := hrel
    have LR := Lib.hid lr
    have HR := Lib.hid hr
    have NR := Lib.hid nr
    have ER := Lib.hid er
    clear lr hr nr er
    by_cases hlt : k < cs.length
    · have c0 : wr.cell? ⟨b, k, none⟩ = some cs[k].1 := by rw [HR.out.cell (LR.out _ _ HB.out)]; simp [hlt]
      have hck := HC.out cs[k] (List.getElem_mem hlt)
      have EQ := Lib.hid (firstOf_snoc x0 (cs.take k) cs[k])
      have TS := Lib.hid (take_snoc cs k hlt)
      obtain ⟨⟨p, q, is, hcv, hp, hq, hi⟩, hx0⟩ := hck
      rw [hcv] at c0
      have HP := Lib.hid hp
      have HQ := Lib.hid hq
      have HI := Lib.hid hi
      have HX := Lib.hid hx0
      have HCV := Lib.hid hcv
      clear hp hq hi hx0 hcv
      rcases ER.out with ⟨h0, h1⟩ | ⟨h0, be, h1, h2⟩
      · subst h1
        have H0 := Lib.hid h0
        clear h0
        go_wp2_with fail
        refine (when1_any p q is _ _ wr mr HR.out (LR.out _ _ HP.out) (LR.out _ _ HQ.out) (HI.out.le LR.out) HX.out).mono ?_
        rintro e w2 ⟨v, m2, rfl, l2, h2, n2, hv⟩
        have L2 := Lib.hid l2
        have H2 := Lib.hid h2
        have N2 := Lib.hid n2
        have HV := Lib.hid hv
        clear l2 h2 n2 hv
        go_wp2_with fail
        go_roundw
        case rel => exact ⟨k + 1, by omega, by go_num, m2, Mem.le_trans LR.out L2.out, H2.out, NR.out.trans N2.out, by rw [TS.out, EQ.out, if_pos H0.out]; exact HV.out⟩
        case measure => simp [intOf]; omega
      · subst h1
        have H0 := Lib.hid h0
        have H2 := Lib.hid h2
        clear h0 h2
        go_wp2_with fail
        go_roundw
        case rel => exact ⟨k + 1, by omega, by go_num, mr, LR.out, HR.out, NR.out, by rw [TS.out, EQ.out, if_neg H0.out]; exact .inr ⟨H0.out, be, rfl, H2.out⟩⟩
        case measure => simp [intOf]; omega
    · have hkl : k = cs.length := by omega
      have TL := Lib.hid (show cs.take k = cs from by rw [hkl]; simp)
      clear hkl
      go_wp2_with fail
      go_ret
      exact Post.mk mr LR.out HR.out NR.out (by have := ER.out; rw [TL.out] at this; exact this)
end Go.Proofs.YtcdmdkgiabfbeaaDoor
