/-
  The plain law of FilesLines: a file of lines is read line by line.
-/
import Derived.Test.YtcdmdkgiabfbeaaDoorAwake
namespace Go.Proofs.YtcdmdkgiabfbeaaDoor
open Go.RowKit

section
variable (ls : List (List UInt8)) (ended : Bool)
/-- What the k-th line adds to the text. -/
def pieceOf (k : Nat) : List UInt8 := ls.getD k [] ++ if decide (k + 1 < ls.length) || ended then [10] else []
/-- The text of the first lines. -/
def textOf : Nat → List UInt8
  | 0 => []
  | k + 1 => textOf k ++ pieceOf ls ended k
theorem textOf_add (k : Nat) : ∀ j, ∃ R, textOf ls ended (k + j) = textOf ls ended k ++ R
  | 0 => ⟨[], by simp⟩
  | j + 1 => by
    obtain ⟨R, h⟩ := textOf_add k j
    exact ⟨R ++ pieceOf ls ended (k + j), by rw [← Nat.add_assoc, textOf, h, List.append_assoc]⟩
theorem textOf_split {k n : Nat} (h : k < n) : ∃ R, textOf ls ended n = textOf ls ended k ++ (pieceOf ls ended k ++ R) := by
  obtain ⟨R, hr⟩ := textOf_add ls ended (k + 1) (n - (k + 1))
  rw [show k + 1 + (n - (k + 1)) = n from by omega] at hr
  exact ⟨R, by rw [hr, textOf, List.append_assoc]⟩
end

theorem indexByte_at : ∀ (l r : List UInt8), (∀ x ∈ l, x ≠ 10) → Lib.indexByte (l ++ 10 :: r) 10 = l.length
  | [], r, _ => by simp [Lib.indexByte]
  | x :: l, r, h => by
    have ih := indexByte_at l r (fun y hy => h y (by simp [hy]))
    have hx : x ≠ 10 := h x (by simp)
    simp only [List.cons_append, Lib.indexByte, ih, List.length_cons]
    rw [if_neg (by simpa using hx), if_neg (by simp)]
    omega
theorem indexByte_no : ∀ (l : List UInt8), (∀ x ∈ l, x ≠ 10) → Lib.indexByte l 10 = -1
  | [], _ => rfl
  | x :: l, h => by
    have ih := indexByte_no l (fun y hy => h y (by simp [hy]))
    have hx : x ≠ 10 := h x (by simp)
    simp only [Lib.indexByte, ih]
    rw [if_neg (by simpa using hx)]; rfl

/-- A store of one file f, open for reading under the number 1, at a place. -/
def StF (f : ByteArray) (t : ByteArray) (pos c : Nat) : A := { look := (A0 [(f, t)] []).look, count := 1, hnd := fun j => if j = 0 then some (f, 1, pos) else none, fails := [], n := c }

theorem StF_open (f t : ByteArray) (hn : isNameB f = true) : (A0 [(f, t)] []).openF f 1 = (StF f t 0 1, 0, 1) := by
  have hl : ((A0 [(f, t)] []).look f).isNone = false := by simp [A0]
  have h : (A0 [(f, t)] []).openX f 1 = 0 := by
    unfold A.openX
    rw [hn, hl]
    rfl
  unfold A.openF
  rw [if_neg (fun c => c h)]
  rfl

theorem StF_bytes (f t : ByteArray) (pos c : Nat) : (StF f t pos c).tick.bytes f = t.data.toList := by
  show ((A0 [(f, t)] []).look f).getD [] = _
  simp [A0]
theorem StF_set (f t : ByteArray) (pos c p : Nat) : ((StF f t pos c).tick).setH 0 (some (f, 1, p)) = StF f t p (c + 1) := by
  simp only [StF, A.tick, A.setH, A.mk.injEq, true_and, and_true]
  funext j; split <;> rfl

theorem StF_line (f t : ByteArray) (pos c : Nat) : A.withA (StF f t pos c) 1 ([], false) (lineF (1 - 1 : Int).toNat 100) =
    if t.data.toList.length ≤ pos then ((StF f t pos c).tick, 0, ([], false)) else
      if 0 ≤ Lib.indexByte (leftL t.data.toList pos 100 0) 10 then (StF f t (pos + 1 + (Lib.indexByte (leftL t.data.toList pos 100 0) 10).toNat) (c + 1), 0, ((leftL t.data.toList pos 100 0).take (Lib.indexByte (leftL t.data.toList pos 100 0) 10).toNat, true))
      else (StF f t (pos + (leftL t.data.toList pos 100 0).length) (c + 1), 0, (leftL t.data.toList pos 100 0, true)) := by
  have h1 : A.withA (StF f t pos c) 1 ([], false) (lineF (1 - 1 : Int).toNat 100) = lineF 0 100 (StF f t pos c).tick (f, 1, pos) (0, 0, 0) := rfl
  rw [h1]
  unfold lineF readL
  rw [if_neg (show ¬ ((1 : Int) = 2) by decide), StF_bytes, StF_set, StF_set]

theorem leftL_drop (bs : List UInt8) (pos : Nat) : leftL bs pos 100 0 = (bs.drop pos).take 100 := rfl

/-- A line that is there. -/
theorem StF_step (f t : ByteArray) (ls : List (List UInt8)) (ended : Bool) (c k : Nat) (ht : t.data.toList = textOf ls ended ls.length) (hk : k < ls.length) (hl : ls[k].length ≤ 60) (hno : ∀ x ∈ ls[k], x ≠ 10)
    (hne : (k + 1 < ls.length ∨ ended = true) ∨ ls[k] ≠ []) :
    A.withA (StF f t (textOf ls ended k).length c) 1 ([], false) (lineF (1 - 1 : Int).toNat 100) = (StF f t (textOf ls ended (k + 1)).length (c + 1), 0, (ls[k], true)) := by
  have hg : ls.getD k [] = ls[k] := by simp [List.getD_eq_getElem?_getD, hk]
  obtain ⟨R, hR⟩ := textOf_split ls ended hk
  have hd : (t.data.toList).drop (textOf ls ended k).length = pieceOf ls ended k ++ R := by rw [ht, hR]; simp
  rw [StF_line, leftL_drop, hd]
  have hlen : ¬ t.data.toList.length ≤ (textOf ls ended k).length := by
    rw [ht, hR]
    unfold pieceOf
    rw [hg]
    rcases hne with h | h
    · rw [if_pos (by simpa using h)]; simp; omega
    · have := List.length_pos_iff.2 h
      simp; omega
  rw [if_neg hlen]
  by_cases hnl : (decide (k + 1 < ls.length) || ended) = true
  · have hp : pieceOf ls ended k = ls[k] ++ [10] := by unfold pieceOf; rw [hg, if_pos hnl]
    have htk : (pieceOf ls ended k ++ R).take 100 = ls[k] ++ 10 :: R.take (99 - ls[k].length) := by
      rw [hp, List.append_assoc, List.take_append, List.take_of_length_le (by omega)]
      congr 1
      rw [show (100 - ls[k].length) = (99 - ls[k].length) + 1 from by omega]; rfl
    rw [htk, indexByte_at _ _ hno, if_pos (by omega)]
    have e1 : (textOf ls ended (k + 1)).length = (textOf ls ended k).length + 1 + ((ls[k].length : Nat) : Int).toNat := by
      rw [textOf, hp]; simp; omega
    rw [e1, show ((ls[k].length : Nat) : Int).toNat = ls[k].length from by omega, List.take_left]
  · have hnl' : (decide (k + 1 < ls.length) || ended) = false := by simpa using hnl
    have hp : pieceOf ls ended k = ls[k] := by unfold pieceOf; rw [hg, if_neg hnl]; simp
    have hR0 : R = [] := by
      have hk1 : k + 1 = ls.length := by simp at hnl'; omega
      have : textOf ls ended ls.length = textOf ls ended k ++ pieceOf ls ended k := by rw [← hk1]; rfl
      rw [this] at hR
      exact List.self_eq_append_right.1 (List.append_cancel_left hR)
    rw [hR0, hp, List.append_nil, List.take_of_length_le (by omega), indexByte_no _ hno, if_neg (by omega)]
    have e1 : (textOf ls ended (k + 1)).length = (textOf ls ended k).length + ls[k].length := by rw [textOf, hp]; simp
    rw [e1]
/-- The end of the file. -/
theorem StF_end (f t : ByteArray) (pos c : Nat) (h : t.data.toList.length ≤ pos) : A.withA (StF f t pos c) 1 ([], false) (lineF (1 - 1 : Int).toNat 100) = ((StF f t pos c).tick, 0, ([], false)) := by
  rw [StF_line, if_pos h]

theorem textOf_length (ls : List (List UInt8)) (ended : Bool) (h : ∀ l ∈ ls, l.length ≤ 60) : ∀ k, (textOf ls ended k).length ≤ k * 61
  | 0 => by simp [textOf]
  | k + 1 => by
    have ih := textOf_length ls ended h k
    have hp : (pieceOf ls ended k).length ≤ 61 := by
      unfold pieceOf
      have h1 : (ls.getD k []).length ≤ 60 := by
        rw [List.getD_eq_getElem?_getD]
        cases hk : ls[k]? with
        | none => simp
        | some l => simpa using h l (List.mem_of_getElem? hk)
      rw [List.length_append]
      split <;> simp only [List.length_cons, List.length_nil] <;> omega
    rw [textOf, List.length_append]
    omega
end Go.Proofs.YtcdmdkgiabfbeaaDoor
