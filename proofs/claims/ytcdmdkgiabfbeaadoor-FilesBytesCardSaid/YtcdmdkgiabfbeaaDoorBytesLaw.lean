/-
  The plain law of FilesBytes: what is written at a place is read at that place.
-/
import Derived.Test.YtcdmdkgiabfbeaaDoorCreate
import Derived.Test.YtcdmdkgiabfbeaaDoorAwake
import Derived.Test.YtcdmdkgiabfbeaaDoorResize
namespace Go.Proofs.YtcdmdkgiabfbeaaDoor
open Go.RowKit

/-- A store of one file, open for both under number 1 and for reading under number 2. -/
def StB (bs : List UInt8) (pa pb c : Nat) : A :=
  { look := fun t => if t = ⟨#[102]⟩ then some bs else none, count := 1, hnd := fun j => if j = 1 then some (⟨#[102]⟩, 1, pb) else if j = 0 then some (⟨#[102]⟩, 3, pa) else none, fails := [], n := c }
/-- .. open under number 1 alone. -/
def StA (c : Nat) : A :=
  { look := fun t => if t = ⟨#[102]⟩ then some [] else none, count := 1, hnd := fun j => if j = 0 then some (⟨#[102]⟩, 3, 0) else none, fails := [], n := c }

theorem fNm_okB : isNameB ⟨#[102]⟩ = true := by rw [isNameB_eq]; rfl

theorem StB_create : (A0 [] []).createF ⟨#[102]⟩ 3 = (StA 1, 0, 1) := by
  have h : (A0 [] []).createX ⟨#[102]⟩ 3 = 0 := by
    unfold A.createX
    rw [fNm_okB]
    rfl
  unfold A.createF
  rw [if_neg (fun c => c h)]
  rfl
theorem StB_open : (StA 1).openF ⟨#[102]⟩ 1 = (StB [] 0 0 2, 0, 2) := by
  have hl : ((StA 1).look ⟨#[102]⟩).isNone = false := by simp [StA]
  have h : (StA 1).openX ⟨#[102]⟩ 1 = 0 := by
    unfold A.openX
    rw [fNm_okB, hl]
    rfl
  unfold A.openF
  rw [if_neg (fun c => c h)]
  rfl

theorem StB_bytes (bs : List UInt8) (pa pb c : Nat) : (StB bs pa pb c).tick.bytes ⟨#[102]⟩ = bs := by
  show (if (⟨#[102]⟩ : ByteArray) = ⟨#[102]⟩ then some bs else none : Option (List UInt8)).getD [] = _
  rw [if_pos rfl]; rfl
theorem StB_setA (bs : List UInt8) (pa pb c p : Nat) : ((StB bs pa pb c).tick).setH 0 (some (⟨#[102]⟩, 3, p)) = StB bs p pb (c + 1) := by
  simp only [StB, A.tick, A.setH, A.mk.injEq, true_and, and_true]
  funext j
  by_cases h0 : j = 0
  · subst h0; simp
  · simp [h0]
theorem StB_setB (bs : List UInt8) (pa pb c p : Nat) : ((StB bs pa pb c).tick).setH 1 (some (⟨#[102]⟩, 1, p)) = StB bs pa p (c + 1) := by
  simp only [StB, A.tick, A.setH, A.mk.injEq, true_and, and_true]
  funext j
  by_cases h0 : j = 1
  · subst h0; simp
  · simp [h0]
theorem StB_setF (bs bs' : List UInt8) (pa pb c : Nat) : ((StB bs pa pb c).tick).setF ⟨#[102]⟩ bs' = (StB bs' pa pb c).tick := by
  simp only [StB, A.tick, A.setF, A.mk.injEq, and_true]
  funext t
  split <;> rfl

theorem StB_resize (bs : List UInt8) (pa pb c n : Nat) (hn : n ≤ 262144) : A.withA (StB bs pa pb c) 1 () (resizeF (n : Int)) = (StB (resz bs n) pa pb (c + 1), 0, ()) := by
  have h1 : A.withA (StB bs pa pb c) 1 () (resizeF (n : Int)) = resizeF (n : Int) (StB bs pa pb c).tick (⟨#[102]⟩, 3, pa) (0, 0, 0) := rfl
  have h2 : resizeX (⟨#[102]⟩, 3, pa) (n : Int) = 0 := by
    unfold resizeX
    rw [if_neg (show ¬ ((3 : Int) = 1) by decide), if_neg (by omega), if_neg (by omega)]
  rw [h1]
  unfold resizeF
  rw [if_neg (fun c => c h2), StB_bytes, StB_setF, show ((n : Int)).toNat = n from by omega]
  rfl
theorem StB_seekA (bs : List UInt8) (pa pb c n : Nat) (hn : n ≤ bs.length) : A.withA (StB bs pa pb c) 1 () (seekF (1 - 1 : Int).toNat (n : Int)) = (StB bs n pb (c + 1), 0, ()) := by
  have h1 : A.withA (StB bs pa pb c) 1 () (seekF (1 - 1 : Int).toNat (n : Int)) = seekF 0 (n : Int) (StB bs pa pb c).tick (⟨#[102]⟩, 3, pa) (0, 0, 0) := rfl
  rw [h1]
  unfold seekF
  rw [StB_bytes, if_neg (by omega), show ((n : Int)).toNat = n from by omega, StB_setA]
theorem StB_seekB (bs : List UInt8) (pa pb c : Nat) : A.withA (StB bs pa pb c) 2 () (seekF (2 - 1 : Int).toNat 0) = (StB bs pa 0 (c + 1), 0, ()) := by
  have h1 : A.withA (StB bs pa pb c) 2 () (seekF (2 - 1 : Int).toNat 0) = seekF 1 0 (StB bs pa pb c).tick (⟨#[102]⟩, 1, pb) (0, 0, 0) := rfl
  rw [h1]
  unfold seekF
  rw [StB_bytes, if_neg (by omega)]
  rw [show ((0 : Int)).toNat = 0 from rfl, StB_setB]
theorem StB_write (bs ys : List UInt8) (pa pb c : Nat) (hn : pa + ys.length ≤ 262144) :
    A.withA (StB bs pa pb c) 1 () (writeF (1 - 1 : Int).toNat ys) = (StB (wr (resz bs (max bs.length (pa + ys.length))) pa ys) (pa + ys.length) pb (c + 1), 0, ()) := by
  have h1 : A.withA (StB bs pa pb c) 1 () (writeF (1 - 1 : Int).toNat ys) = writeF 0 ys (StB bs pa pb c).tick (⟨#[102]⟩, 3, pa) (0, 0, 0) := rfl
  have h2 : writeX (⟨#[102]⟩, 3, pa) ys = 0 := by
    unfold writeX
    rw [if_neg (show ¬ ((3 : Int) = 1) by decide), if_neg (show ¬ (262144 < pa + ys.length) by omega)]
  rw [h1]
  unfold writeF
  rw [if_neg (fun c => c h2), StB_bytes, StB_setF]
  show ((StB _ pa pb c).tick.setH 0 (some (⟨#[102]⟩, 3, pa + ys.length)), _) = _
  rw [StB_setA]
theorem StB_read (bs : List UInt8) (pa c : Nat) (hn : bs.length ≤ 5000) : A.withA (StB bs pa 0 c) 2 [] (readF (2 - 1 : Int).toNat 5000) = (StB bs pa bs.length (c + 1), 0, bs) := by
  have h1 : A.withA (StB bs pa 0 c) 2 [] (readF (2 - 1 : Int).toNat 5000) = readF 1 5000 (StB bs pa 0 c).tick (⟨#[102]⟩, 1, 0) (0, 0, 0) := rfl
  have h2 : readL (StB bs pa 0 c).tick (⟨#[102]⟩, 1, 0) 5000 (0, 0, 0) = bs := by
    unfold readL
    rw [StB_bytes]
    show (bs.drop 0).take 5000 = bs
    rw [List.drop_zero, List.take_of_length_le hn]
  rw [h1]
  unfold readF
  rw [if_neg (show ¬ ((1 : Int) = 2) by decide), h2]
  show ((StB bs pa 0 c).tick.setH 1 (some (⟨#[102]⟩, 1, 0 + bs.length)), _) = _
  rw [StB_setB, Nat.zero_add]

/-! ### what is wanted -/
/-- Noughts up to a place. -/
def padTo (bs : List UInt8) (n : Nat) : List UInt8 := bs ++ List.replicate (n - bs.length) 0
theorem padTo_length (bs : List UInt8) (n : Nat) : (padTo bs n).length = max bs.length n := by simp [padTo]; omega
theorem padTo_step (bs : List UInt8) (j : Nat) : bs ++ List.replicate (j + 1) 0 = bs ++ List.replicate j (0 : UInt8) ++ [0] := by
  rw [List.replicate_succ', List.append_assoc]
theorem resz_pad (bs : List UInt8) (n : Nat) : resz bs (padTo bs n).length = padTo bs n := by
  unfold resz
  rw [padTo_length]
  unfold padTo
  rw [List.take_of_length_le (by omega)]
  congr 2
  omega
/-- The first k bytes of ys over those of bs from a place on. -/
def over (bs : List UInt8) (p : Nat) (ys : List UInt8) (k : Nat) : List UInt8 := bs.take p ++ ys.take k ++ bs.drop (p + k)
theorem over_zero (bs : List UInt8) (p : Nat) (ys : List UInt8) : over bs p ys 0 = bs := by simp [over]
theorem over_length {bs ys : List UInt8} {p k : Nat} (hp : p ≤ bs.length) (hk : k ≤ ys.length) : (over bs p ys k).length = max bs.length (p + k) := by
  simp [over]; omega
theorem over_set {bs ys : List UInt8} {p k : Nat} (hp : p ≤ bs.length) (hk : k < ys.length) (h : p + k < bs.length) : (over bs p ys k).set (p + k) ys[k] = over bs p ys (k + 1) := by
  apply List.ext_getElem?
  intro j
  have ht1 : (bs.take p).length = p := by simp; omega
  have ht2 : (bs.take p ++ ys.take k).length = p + k := by simp; omega
  have ht3 : (bs.take p ++ ys.take (k + 1)).length = p + (k + 1) := by simp; omega
  rw [List.getElem?_set]
  unfold over
  by_cases h1 : p + k = j
  · subst h1
    rw [if_pos rfl, if_pos (by simp; omega)]
    rw [List.getElem?_append_left (l₁ := bs.take p ++ ys.take (k + 1)) (by omega), List.getElem?_append_right (by omega), ht1]
    simp [hk]
  · rw [if_neg h1]
    by_cases h2 : j < p + k
    · rw [List.getElem?_append_left (l₁ := bs.take p ++ ys.take k) (by omega), List.getElem?_append_left (l₁ := bs.take p ++ ys.take (k + 1)) (by omega)]
      by_cases h3 : j < p
      · rw [List.getElem?_append_left (l₂ := ys.take k) (by omega), List.getElem?_append_left (l₂ := ys.take (k + 1)) (by omega)]
      · rw [List.getElem?_append_right (l₂ := ys.take k) (by omega), List.getElem?_append_right (l₂ := ys.take (k + 1)) (by omega), ht1, List.getElem?_take, List.getElem?_take, if_pos (by omega), if_pos (by omega)]
    · rw [List.getElem?_append_right (l₁ := bs.take p ++ ys.take k) (by omega), List.getElem?_append_right (l₁ := bs.take p ++ ys.take (k + 1)) (by omega), ht2, ht3, List.getElem?_drop, List.getElem?_drop]
      congr 1; omega
theorem over_snoc {bs ys : List UInt8} {p k : Nat} (hk : k < ys.length) (h : bs.length ≤ p + k) : over bs p ys k ++ [ys[k]] = over bs p ys (k + 1) := by
  unfold over
  rw [List.drop_eq_nil_of_le h, List.drop_eq_nil_of_le (by omega), List.append_nil, List.append_nil, List.append_assoc, List.take_succ_eq_append_getElem hk]
theorem over_wr {bs ys : List UInt8} {p : Nat} (hp : p ≤ bs.length) : wr (resz bs (max bs.length (p + ys.length))) p ys = over bs p ys ys.length := by
  unfold wr resz over
  rw [List.take_of_length_le (show bs.length ≤ max bs.length (p + ys.length) by omega), List.take_append_of_le_length hp, List.take_length]
  congr 1
  rcases Nat.lt_or_ge bs.length (p + ys.length) with h | h
  · rw [List.drop_eq_nil_of_le (by simp; omega), List.drop_eq_nil_of_le (by omega)]
  · rw [show max bs.length (p + ys.length) - bs.length = 0 by omega]; simp
end Go.Proofs.YtcdmdkgiabfbeaaDoor
