/-
  New: a store of files.
-/
import Derived.Test.YtcdmdkgiabfbeaaGreatDoorK11
import Derived.Test.YtcdmdkgiabfbeaaGreatDoorK03
import Derived.Test.YtcdmdkgiabfbeaaGreatDoorK04
import Derived.Test.YtcdmdkgiabfbeaaGreatDoorK08
namespace Go.Proofs.YtcdmdkgiabfbeaaGreatDoor
open Go.RowKit

abbrev File2 := ByteArray × ByteArray
def fileCells (f : File2) : List Value := [.string f.1, .string f.2]
def Files2 (m : Mem) (v : Value) (fl : List File2) : Prop := WindK m v fl.length (fl.flatMap fileCells)
def bigB (f : File2) : Bool := decide (262144 < (f.2.size : Int))
/-- What the sizes say. -/
def newE1 (fl : List File2) (nf : Nat) : Int := if 100 < fl.length ∨ 1000 < nf then 2 else 0
def sizeE (e : Int) (fl : List File2) : Int := if fl.any bigB then 2 else e
/-- What the names say. -/
def scanE (e : Int) (fl : List File2) : Int := if e ≠ 0 then e else if (fl.map Prod.fst).Nodup ∧ ∀ f ∈ fl, isNameB f.1 = true then 0 else 1
def newE (fl : List File2) (nf : Nat) : Int := scanE (sizeE (newE1 fl nf) fl) fl

theorem sizeE_snoc (e : Int) (fl : List File2) (f : File2) : sizeE e (fl ++ [f]) = if bigB f then 2 else sizeE e fl := by
  unfold sizeE
  rw [List.any_append, List.any_cons, List.any_nil]
  cases h : bigB f <;> cases fl.any bigB <;> simp
def seenB (fl : List File2) (s : ByteArray) : Bool := fl.any fun x => decide (s = x.1)
theorem seenB_iff (fl : List File2) (s : ByteArray) : seenB fl s = true ↔ s ∈ fl.map Prod.fst := by
  unfold seenB
  rw [List.any_eq_true, List.mem_map]
  constructor
  · rintro ⟨x, hx, h⟩; exact ⟨x, hx, (of_decide_eq_true h).symm⟩
  · rintro ⟨x, hx, rfl⟩; exact ⟨x, hx, by simp⟩
theorem scanE_snoc (e : Int) (fl : List File2) (f : File2) : scanE e (fl ++ [f]) = if scanE e fl = 0 ∧ (seenB fl f.1 = true ∨ isNameB f.1 = false) then 1 else scanE e fl := by
  have hs := seenB_iff fl f.1
  have hQ : (((fl ++ [f]).map Prod.fst).Nodup ∧ ∀ g ∈ fl ++ [f], isNameB g.1 = true) ↔ ((fl.map Prod.fst).Nodup ∧ ∀ g ∈ fl, isNameB g.1 = true) ∧ ¬ (seenB fl f.1 = true ∨ isNameB f.1 = false) := by
    rw [List.map_append, List.nodup_append]
    constructor
    · rintro ⟨⟨h1, _, h2⟩, h3⟩
      refine ⟨⟨h1, fun g hg => h3 g (by simp [hg])⟩, ?_⟩
      rintro (h | h)
      · exact h2 _ (hs.1 h) _ (by simp) rfl
      · have := h3 f (by simp)
        rw [h] at this; cases this
    · rintro ⟨⟨h1, h2⟩, h3⟩
      refine ⟨⟨h1, by simp, fun a ha b hb => ?_⟩, fun g hg => ?_⟩
      · simp at hb
        subst hb
        exact fun e => h3 (.inl (hs.2 (by rw [← e]; exact ha)))
      · rcases List.mem_append.1 hg with hg | hg
        · exact h2 g hg
        · obtain rfl := List.mem_singleton.1 hg
          cases hn : isNameB g.1 with
          | true => rfl
          | false => exact absurd (.inr hn) h3
  unfold scanE
  by_cases he : e ≠ 0
  · rw [if_pos he, if_pos he, if_neg (fun h => he h.1)]
  · rw [if_neg he, if_neg he]
    by_cases hP : (fl.map Prod.fst).Nodup ∧ ∀ g ∈ fl, isNameB g.1 = true
    · by_cases h2 : seenB fl f.1 = true ∨ isNameB f.1 = false
      · have e1 : ¬ (((fl ++ [f]).map Prod.fst).Nodup ∧ ∀ g ∈ fl ++ [f], isNameB g.1 = true) := fun h => (hQ.1 h).2 h2
        rw [if_neg e1, if_pos hP, if_pos ⟨rfl, h2⟩]
      · have e1 := hQ.2 ⟨hP, h2⟩
        rw [if_pos e1, if_pos hP, if_neg (fun h => h2 h.2)]
    · have e1 : ¬ (((fl ++ [f]).map Prod.fst).Nodup ∧ ∀ g ∈ fl ++ [f], isNameB g.1 = true) := fun h => hP (hQ.1 h).1
      rw [if_neg e1, if_neg hP, if_neg (fun h => by have := h.1; omega)]

theorem fileCells_get : ∀ (l : List File2) (k : Nat) (h : k < l.length), (l.flatMap fileCells)[k * 2]? = some (.string l[k].1) ∧ (l.flatMap fileCells)[k * 2 + 1]? = some (.string l[k].2)
  | f :: l, 0, _ => by simp [fileCells]
  | f :: l, k + 1, h => by
    have := fileCells_get l k (by simpa using h)
    simp only [List.flatMap_cons, fileCells, Nat.add_mul, Nat.one_mul]
    simpa [fileCells] using this

/-- What New answers. -/
def NewR (m : Mem) (fl : List File2) (xl : List Fail3) (v : Value) (m' : Mem) : Prop :=
  (newE fl xl.length = 0 → ∃ sb g, v = .tuple #[.pointer (some ⟨sb, 0, none⟩), .int .i64 0] ∧ SRep m' sb g ∧ (∀ b, FP sb g b → m b = none) ∧ g.L.map (fun e => (e.name, e.bs)) = fl.map (fun f => (f.1, f.2.data.toList)) ∧ g.O = [] ∧ g.fails = xl ∧ g.n = 0) ∧
  (newE fl xl.length ≠ 0 → v = .tuple #[.pointer none, .int .i64 (newE fl xl.length)])
theorem newOk {fl : List File2} {nf : Nat} (h : sizeE (newE1 fl nf) fl = 0) : fl.length ≤ 100 ∧ nf ≤ 1000 ∧ ∀ f ∈ fl, f.2.size ≤ 262144 := by
  unfold sizeE at h
  by_cases h1 : fl.any bigB = true
  · rw [if_pos h1] at h; omega
  · rw [if_neg h1] at h
    unfold newE1 at h
    by_cases h2 : 100 < fl.length ∨ 1000 < nf
    · rw [if_pos h2] at h; omega
    · refine ⟨by omega, by omega, fun f hf => ?_⟩
      rcases Nat.lt_or_ge 262144 f.2.size with h3 | h3
      · exfalso
        apply h1
        rw [List.any_eq_true]
        exact ⟨f, hf, by unfold bigB; simp; omega⟩
      · exact h3
theorem scanE_zero {e : Int} {fl : List File2} (h : scanE e fl = 0) : e = 0 := by
  unfold scanE at h
  by_cases h1 : e ≠ 0
  · rw [if_pos h1] at h; exact absurd h h1
  · omega

/-- What the second loop keeps. -/
def NewI (m : Mem) (sb mb : Nat) (xv : Value) (xl : List Fail3) (E : Int) (pre : List File2) (w : World) (wr : World) : Prop :=
  ∃ mr L clock, m.le mr ∧ Has wr mr ∧ Env w wr ∧ mr sb = some (.cells #[.map (some mb), xv, .slice none 0 0, .int .i64 0] 71 (0, 0)) ∧ mr mb = some (mapObj L clock) ∧
    (scanE E pre = 0 → SRep mr sb ⟨mb, clock, L, xv, .slice none 0 0, [], xl, 0⟩ ∧ L.map (fun e => (e.name, e.bs)) = pre.map (fun f => (f.1, f.2.data.toList)) ∧ ∀ b, FP sb ⟨mb, clock, L, xv, .slice none 0 0, [], xl, 0⟩ b → m b = none)

theorem Files2.shape {m : Mem} {v : Value} {fl : List File2} (h : Files2 m v fl) : ∃ a c, v = .slice a fl.length c := by
  rcases h with ⟨h1, h2⟩ | ⟨A, cap, h1, _⟩
  · exact ⟨none, 0, by rw [h1, h2]⟩
  · exact ⟨_, _, h1⟩
theorem WindK.shape {m : Mem} {v : Value} {n : Nat} {xs : List Value} (h : WindK m v n xs) : ∃ a c, v = .slice a n c := by
  rcases h with ⟨h1, h2⟩ | ⟨A, cap, h1, _⟩
  · exact ⟨none, 0, by rw [h1, h2]⟩
  · exact ⟨_, _, h1⟩

set_option maxHeartbeats 16000000 in
set_option maxRecDepth 100000 in
theorem new_any (fv xv : Value) (fl : List File2) (xl : List Fail3) (w : World) (m : Mem) (hm : Has w m) (hf : Files2 m fv fl) (hx : WindK m xv xl.length (xl.flatMap failCells)) (hfl : fl.length ≤ 1000000) (hxl : xl.length ≤ 1000000)
    (hbs : ∀ f ∈ fl, f.2.size ≤ 1000000000) :
    Calls Tryz.prog 18 #[fv, xv] w (Post w m (NewR m fl xl)) := by
  obtain ⟨fa, fc, rfl⟩ := hf.shape
  obtain ⟨xa, xc, rfl⟩ := hx.shape
  have H := Lib.hid hm
  have HF := Lib.hid hf
  have HX := Lib.hid hx
  have HBS := Lib.hid hbs
  clear hm hf hx hbs
  obtain ⟨e1, he1⟩ : ∃ e1, newE1 fl xl.length = e1 := ⟨_, rfl⟩
  have HE1 := Lib.hid he1
  have main : ∀ (h : (100 < (fl.length : Int)) ∧ e1 = 2 ∨ (fl.length : Int) ≤ 100 ∧ (1000 < (xl.length : Int)) ∧ e1 = 2 ∨ (fl.length : Int) ≤ 100 ∧ ((xl.length : Int) ≤ 1000) ∧ e1 = 0), Calls Tryz.prog 18 #[.slice fa fl.length fc, .slice xa xl.length xc] w (Post w m (NewR m fl xl)) := by
    clear he1
    rintro (⟨g1, rfl⟩ | ⟨g1, g2, rfl⟩ | ⟨g1, g2, rfl⟩)
    all_goals
      have hmm := @run_makeMap Tryz.prog
      have h1 := H.out.alloc (mapObj [] 0)
      have l1 := Mem.le_set m (mapObj [] 0) (H.out.fresh (Nat.le_refl _))
      have hfr := H.out.fresh (Nat.le_refl w.heap.size)
      have CL := cloneF_any (.slice xa xl.length xc) xl _ _ h1 (HX.out.le l1) hxl
      have HCL := Lib.hid CL
      have L1 := Lib.hid l1
      have HFR := Lib.hid hfr
      have HM := Lib.hid (Mem.set_same m w.heap.size (mapObj [] 0))
      have N1 := Lib.hid ((Env.refl w).alloc (mapObj [] 0))
      clear h1 l1 CL hfr
      go_enter Tryz.func18, Tryz.ntmps18
      go_wp2_with fail
      refine HCL.out.mono ?_
      rintro e w2 ⟨v, m2, rfl, l2, h2, n2, hv, hvf⟩
      obtain ⟨va, vc, rfl, _⟩ := Row.lenV hv
      have h3 := h2.alloc (.cells #[.map (some w.heap.size), .slice va xl.length vc, .slice none 0 0, .int .i64 0] 71)
      have hfr3 := h2.fresh (Nat.le_refl _)
      have l3 := Mem.le_set m2 (.cells #[.map (some w.heap.size), .slice va xl.length vc, .slice none 0 0, .int .i64 0] 71) hfr3
      have J3 := Lib.hid h3
      have L3 := Lib.hid (Mem.le_trans L1.out (Mem.le_trans l2 l3))
      have HM3 := Lib.hid (l3 _ _ (l2 _ _ HM.out))
      have HV := Lib.hid (Row.le hv l3)
      have HVF : Hid (∀ b, (Value.slice va xl.length vc).ownBlock = some b → m b = none) := Lib.hid (fun b hb => Mem.none_le L1.out (hvf b hb))
      have HS3 := Lib.hid (Mem.set_same m2 w2.heap.size (.cells #[.map (some w.heap.size), .slice va xl.length vc, .slice none 0 0, .int .i64 0] 71))
      have HSF := Lib.hid (Mem.none_le L1.out (Mem.none_le l2 hfr3))
      have M3 := Lib.hid ((N1.out.trans n2).alloc (.cells #[.map (some w.heap.size), .slice va xl.length vc, .slice none 0 0, .int .i64 0] 71))
      clear hv hvf l2 h2 n2 h3 hfr3 l3
      go_wp2_with fail
      refine wp_opaque w _ J3.out M3.out ?_
      intro w3 h3 n3
      have H3 := Lib.hid h3
      have N3 := Lib.hid n3
      clear h3 n3 HCL hmm J3 M3 N1 HM L1
      generalize w2.heap.size = sb at *
      generalize w.heap.size = mb at *
      generalize m2.set sb (.cells #[.map (some mb), .slice va xl.length vc, .slice none 0 0, .int .i64 0] 71) = m3 at *
      go_loopw [6, 29] (fun ev i wr => ∃ k : Nat, k ≤ fl.length ∧ i = .int .i64 k ∧ ev = .int .i64 (sizeE (newE1 fl xl.length) (fl.take k)) ∧ Hid (∃ mr, m3.le mr ∧ Has wr mr ∧ Env w wr)) (fun _ i _ => fl.length - (intOf i).toNat)
      case atStart => exact ⟨0, Nat.zero_le _, rfl, by simp [sizeE, HE1.out], m3, Mem.le_refl _, H3.out, N3.out⟩
      case round =>
        obtain ⟨k, hk, rfl, rfl, hX⟩ := hrel
        obtain ⟨mr, lr, hwr, nr⟩ := hX.out
        have LR := Lib.hid lr
        have HW := Lib.hid hwr
        have NR := Lib.hid nr
        clear lr hwr nr hX
        by_cases hlt : k < fl.length
        · obtain ⟨fb, fo, hfa, hc⟩ : ∃ fb fo, fa = some ⟨fb, fo, none⟩ ∧ Cells m fb fo (fl.flatMap fileCells) := by
            obtain ⟨g, o, cap, h, hc⟩ := WindK.cells HF.out (by omega)
            simp only [Value.slice.injEq] at h; exact ⟨g, o, h.1, hc⟩
          subst hfa
          obtain ⟨g0, g1'⟩ := fileCells_get fl k hlt
          have hcw := (hc.le (Mem.le_trans L3.out LR.out)).at HW.out
          have e0 := hcw _ _ g0
          have e1 := hcw _ _ g1'
          have hadd : ∀ j, (⟨fb, fo, none⟩ : Addr).add j = ⟨fb, fo + j, none⟩ := fun j => by unfold Addr.add; split <;> simp_all
          rw [hadd] at e0 e1
          rw [← Nat.add_assoc] at e1
          have flt : fb < wr.heap.size := by
            obtain ⟨c, e, fz, h1, _⟩ := hc
            exact HW.out.lt (LR.out _ _ (L3.out _ _ h1))
          have TS : Hid (fl.take (k + 1) = fl.take k ++ [fl[k]]) := Lib.hid (List.take_succ_eq_append_getElem hlt)
          obtain ⟨⟨nm, by'⟩, hf⟩ : ∃ f, f = fl[k] := ⟨_, rfl⟩
          rw [← hf] at e0 e1
          have HFK := Lib.hid hf
          clear hf g0 g1' hcw hc hadd
          cases hb : bigB (nm, by') with
          | true =>
            have hb' : 262144 < (by'.size : Int) := by unfold bigB at hb; simpa using hb
            have HBB := Lib.hid hb
            clear hb
            go_wp2_with fail
            go_roundw
            case rel => exact ⟨k + 1, by omega, by go_num, by rw [TS.out, sizeE_snoc, ← HFK.out, HBB.out]; rfl, mr, LR.out, HW.out.keep _, NR.out.alloc _⟩
            case measure => simp [intOf]; omega
          | false =>
            have hb' : (by'.size : Int) ≤ 262144 := by unfold bigB at hb; simpa using hb
            have HBB := Lib.hid hb
            clear hb
            go_wp2_with fail
            go_roundw
            case rel => exact ⟨k + 1, by omega, by go_num, by rw [TS.out, sizeE_snoc, ← HFK.out, HBB.out]; rfl, mr, LR.out, HW.out.keep _, NR.out.alloc _⟩
            case measure => simp [intOf]; omega
        · have TL := Lib.hid (show fl.take k = fl from List.take_of_length_le (by omega))
          rw [TL.out]
          obtain ⟨E, hE⟩ : ∃ E, sizeE (newE1 fl xl.length) fl = E := ⟨_, rfl⟩
          have HEE := Lib.hid hE
          rw [hE]
          clear hE
          go_wp2_with fail
          have I0 : NewI m sb mb (.slice va xl.length vc) xl E [] w wr := by
            refine ⟨mr, [], 0, Mem.le_trans L3.out LR.out, HW.out, NR.out, LR.out _ _ HS3.out, LR.out _ _ HM3.out, fun h0 => ?_⟩
            have hE0 := scanE_zero h0
            obtain ⟨_, o2, _⟩ := newOk (HEE.out.trans hE0)
            refine ⟨?_, rfl, ?_⟩
            · exact { store := LR.out _ _ HS3.out, map := LR.out _ _ HM3.out, file := by simp, row := by simp, names := by simp, fbs := by simp, sep := by simp, bornN := by simp, bornC := by simp, fails := Row.le HV.out LR.out, opens := Row.nil _ _ _, hnd := by simp, hof := by simp, obs := by simp, olen := by simp, llen := by simp, nm := by simp, bsz := by simp, pos := by simp, fl := o2 }
            · rintro b (x | x | ⟨d, hd, _⟩ | x | x | ⟨d, hd, _⟩)
              · rw [x]; exact HSF.out
              · rw [show b = mb from x]; exact HFR.out
              · cases hd
              · exact HVF.out b x
              · cases x
              · cases hd
          have II0 := Lib.hid I0
          clear I0 HW NR LR
          go_loopw [6, 40] (fun ev i wr => ∃ k : Nat, k ≤ fl.length ∧ i = .int .i64 k ∧ ev = .int .i64 (scanE E (fl.take k)) ∧ Hid (NewI m sb mb (.slice va xl.length vc) xl E (fl.take k) w wr)) (fun _ i _ => fl.length - (intOf i).toNat)
          case atStart => exact ⟨0, Nat.zero_le _, rfl, by unfold scanE; simp, II0.out⟩
          case round =>
            obtain ⟨k', hk', rfl, rfl, hX⟩ := hrel
            obtain ⟨mr', L, clock, lr, hwr, nr, ms, mm, hgood⟩ := hX.out
            have LR := Lib.hid lr
            have HW := Lib.hid hwr
            have NR := Lib.hid nr
            have MS := Lib.hid ms
            have MM := Lib.hid mm
            have HG := Lib.hid hgood
            clear lr hwr nr hX ms mm hgood II0
            by_cases hlt' : k' < fl.length
            · obtain ⟨fb, fo, hfa, hc⟩ : ∃ fb fo, fa = some ⟨fb, fo, none⟩ ∧ Cells m fb fo (fl.flatMap fileCells) := by
                obtain ⟨g, o, cap, h, hc⟩ := WindK.cells HF.out (by omega)
                simp only [Value.slice.injEq] at h; exact ⟨g, o, h.1, hc⟩
              subst hfa
              obtain ⟨g0, g1'⟩ := fileCells_get fl k' hlt'
              have hcw := (hc.le LR.out).at HW.out
              have e0 := hcw _ _ g0
              have e1 := hcw _ _ g1'
              have hadd : ∀ j, (⟨fb, fo, none⟩ : Addr).add j = ⟨fb, fo + j, none⟩ := fun j => by unfold Addr.add; split <;> simp_all
              rw [hadd] at e0 e1
              rw [← Nat.add_assoc] at e1
              have TS : Hid (fl.take (k' + 1) = fl.take k' ++ [fl[k']]) := Lib.hid (List.take_succ_eq_append_getElem hlt')
              have BSZ0 := HBS.out _ (List.getElem_mem hlt')
              have MEM0 := Lib.hid (List.getElem_mem hlt')
              obtain ⟨⟨nm, by'⟩, hf⟩ : ∃ f, f = fl[k'] := ⟨_, rfl⟩
              rw [← hf] at e0 e1 BSZ0 MEM0
              have BSZ := Lib.hid BSZ0
              have HFK := Lib.hid hf
              have fr1 := HW.out.fresh (Nat.le_refl wr.heap.size)
              have h1 := HW.out.alloc (.cells #[.string nm, .string by'] 60)
              have l1 := Mem.le_set mr' (.cells #[.string nm, .string by'] 60) fr1
              have AB := Lib.hid (Mem.set_same mr' wr.heap.size (.cells #[.string nm, .string by'] 60))
              have slt : sb < wr.heap.size := HW.out.lt MS.out
              have HW1 := Lib.hid h1
              have LW1 := Lib.hid l1
              have NW1 := Lib.hid (NR.out.alloc (.cells #[.string nm, .string by'] 60))
              clear hf g0 g1' hcw hc hadd h1 l1 fr1 BSZ0
              go_wp2_with fail
              refine wp_opaque w _ HW1.out NW1.out ?_
              intro w4 h4 n4
              generalize wr.heap.size = ab at *
              generalize mr'.set ab (.cells #[.string nm, .string by'] 60) = m5 at *
              have q0 : w4.cell? ⟨sb, 0, none⟩ = some (.map (some mb)) := by rw [h4.cell (LW1.out _ _ MS.out)]; rfl
              have q1 : w4.cell? ⟨ab, 0, none⟩ = some (.string nm) := by rw [h4.cell AB.out]; rfl
              have q2 : w4.cell? ⟨ab, 1, none⟩ = some (.string by') := by rw [h4.cell AB.out]; rfl
              have hlk : ∀ n, (Instr.lookup 68 (.map (some mb)) (.string nm) true).run Tryz.prog (w4.drewN n) = .ok (.tuple #[lookV L nm, .bool (getE L nm).isSome]) (w4.drewN n) := fun n => run_lookupOkF mb clock L nm _ (h4 _ _ (LW1.out _ _ MM.out))
              have H4 := Lib.hid h4
              have N4 := Lib.hid n4
              have LE5 := Lib.hid (Mem.le_trans LR.out LW1.out)
              have MS5 := Lib.hid (LW1.out _ _ MS.out)
              have MM5 := Lib.hid (LW1.out _ _ MM.out)
              have G5 : Hid (scanE E (fl.take k') = 0 → SRep m5 sb ⟨mb, clock, L, .slice va xl.length vc, .slice none 0 0, [], xl, 0⟩ ∧ L.map (fun e => (e.name, e.bs)) = (fl.take k').map (fun f => (f.1, f.2.data.toList)) ∧ ∀ b, FP sb ⟨mb, clock, L, .slice va xl.length vc, .slice none 0 0, [], xl, 0⟩ b → m b = none) :=
                Lib.hid (fun h0 => by obtain ⟨x1, x2, x3⟩ := HG.out h0; exact ⟨x1.le LW1.out, x2, x3⟩)
              have SN := Lib.hid (scanE_snoc E (fl.take k') (nm, by'))
              clear h4 n4 HW1 NW1 HG MS MM LR HW NR e0 e1 slt LW1 N3 H3
              obtain ⟨z, hz⟩ : ∃ z, scanE E (fl.take k') = z := ⟨_, rfl⟩
              rw [hz] at G5 SN ⊢
              have HZ := Lib.hid hz
              clear hz
              have SEEN : Hid (z = 0 → seenB (fl.take k') nm = (getE L nm).isSome) := Lib.hid (fun h0 => by
                obtain ⟨_, x2, _⟩ := G5.out h0
                have x3 : L.map (·.name) = (fl.take k').map Prod.fst := by
                  have := congrArg (List.map Prod.fst) x2
                  rw [List.map_map, List.map_map] at this
                  exact this
                rw [Bool.eq_iff_iff, seenB_iff, ← x3]
                unfold getE
                rw [List.find?_isSome, List.mem_map]
                constructor
                · rintro ⟨d, hd, rfl⟩; exact ⟨d, hd, by simp⟩
                · rintro ⟨d, hd, h⟩; exact ⟨d, hd, (of_decide_eq_true h).symm⟩)
              by_cases hz0 : z = 0
              · subst hz0
                cases hg : getE L nm with
                | some d =>
                  rw [hg] at hlk SEEN
                  have HGE := Lib.hid hg
                  clear hg
                  simp only [Option.isSome_some] at hlk
                  go_quiet (fail)
                  go_wp2_with fail
                  refine wp_opaque w _ (H4.out.drewN nq) (N4.out.drewN nq) ?_
                  intro w5 h5 n5
                  have c0 : w5.cell? ⟨sb, 0, none⟩ = some (.map (some mb)) := by rw [h5.cell MS5.out]; rfl
                  have c1 : w5.cell? ⟨ab, 0, none⟩ = some (.string nm) := by rw [h5.cell AB.out]; rfl
                  have c2 : w5.cell? ⟨ab, 1, none⟩ = some (.string by') := by rw [h5.cell AB.out]; rfl
                  obtain ⟨ba, bc, w6, m6, hcv, n6, h6, l6, row6, own6⟩ := conv_any by' w5.drew m5 h5.drew BSZ.out
                  have d0 : w6.cell? ⟨sb, 0, none⟩ = some (.map (some mb)) := by rw [h6.cell (l6 _ _ MS5.out)]; rfl
                  have d1 : w6.cell? ⟨ab, 0, none⟩ = some (.string nm) := by rw [h6.cell (l6 _ _ AB.out)]; rfl
                  have d2 : w6.cell? ⟨ab, 1, none⟩ = some (.string by') := by rw [h6.cell (l6 _ _ AB.out)]; rfl
                  have dlt1 : sb < w6.heap.size := h6.lt (l6 _ _ MS5.out)
                  have dlt2 : ab < w6.heap.size := h6.lt (l6 _ _ AB.out)
                  have h7 := h6.alloc (.cells #[.slice ba by'.size bc] 80)
                  have fr7 := h6.fresh (Nat.le_refl _)
                  have l7 := Mem.le_set m6 (.cells #[.slice ba by'.size bc] 80) fr7
                  have mb7 := l7 _ _ (l6 _ _ MM5.out)
                  have hup := run_updateF mb clock L ⟨nm, w6.heap.size, clock, .slice ba by'.size bc, by'.data.toList⟩ (w6.alloc (.cells #[.slice ba by'.size bc] 80)) (h7 _ _ mb7)
                  have H7 := Lib.hid (h7.setObj mb7 (mapObj (putE L clock ⟨nm, w6.heap.size, clock, .slice ba by'.size bc, by'.data.toList⟩).1 (putE L clock ⟨nm, w6.heap.size, clock, .slice ba by'.size bc, by'.data.toList⟩).2))
                  have N7 := Lib.hid ((((n5.drew).trans n6).alloc (.cells #[.slice ba by'.size bc] 80)).setObj mb (mapObj (putE L clock ⟨nm, w6.heap.size, clock, .slice ba by'.size bc, by'.data.toList⟩).1 (putE L clock ⟨nm, w6.heap.size, clock, .slice ba by'.size bc, by'.data.toList⟩).2))
                  have L67 := Lib.hid (Mem.le_trans l6 l7)
                  have ROW7 := Lib.hid (row6.le l7)
                  have OWN6 := Lib.hid own6
                  have FR7 := Lib.hid (Mem.none_le l6 fr7)
                  have FB7 := Lib.hid (Mem.set_same m6 w6.heap.size (.cells #[.slice ba by'.size bc] 80))
                  clear h5 n5 h6 n6 l6 row6 own6 h7 fr7 l7 mb7
                  refine wp_region_K 11 (fun w' => w'.cell? ⟨sb, 0, none⟩ = some (.map (some mb)) ∧ w'.cell? ⟨ab, 0, none⟩ = some (.string nm) ∧ w'.cell? ⟨ab, 1, none⟩ = some (.string by')) (by kernel_rfl) ?_
                  have hS : (fun w' : World => w'.cell? ⟨sb, 0, none⟩ = some (.map (some mb)) ∧ w'.cell? ⟨ab, 0, none⟩ = some (.string nm) ∧ w'.cell? ⟨ab, 1, none⟩ = some (.string by')) w5.drew := ⟨c0, c1, c2⟩
                  refine wpAnyK_take (i := 0) (v := ?_) rfl (by kernel_rfl) (by kernel_rfl) (by kernel_rfl) (by kernel_rfl) (fun _ _ _ h => h) (Or.inl ⟨by rfl, ?_⟩) hS ?_
                  rotate_left
                  · intro w0 hS0; obtain ⟨q0, q1, q2⟩ := hS0; go_simp; try with_reducible rfl
                  simp only [Act.put, List.setIfInBounds_toArray, List.set_cons_zero, List.set_cons_succ, List.getElem_toArray, List.getElem_cons_succ, List.getElem_cons_zero]
                  refine wpAnyK_take (i := 1) (v := ?_) rfl (by kernel_rfl) (by kernel_rfl) (by kernel_rfl) (by kernel_rfl) (fun _ _ _ h => h) (Or.inl ⟨by rfl, ?_⟩) hS ?_
                  rotate_left
                  · intro w0 hS0; obtain ⟨q0, q1, q2⟩ := hS0; go_simp; try with_reducible rfl
                  simp only [Act.put, List.setIfInBounds_toArray, List.set_cons_zero, List.set_cons_succ, List.getElem_toArray, List.getElem_cons_succ, List.getElem_cons_zero]
                  refine wpAnyK_take (i := 2) (v := ?_) rfl (by kernel_rfl) (by kernel_rfl) (by kernel_rfl) (by kernel_rfl) (fun _ _ _ h => h) (Or.inl ⟨by rfl, ?_⟩) hS ?_
                  rotate_left
                  · intro w0 hS0; obtain ⟨q0, q1, q2⟩ := hS0; go_simp; try with_reducible rfl
                  simp only [Act.put, List.setIfInBounds_toArray, List.set_cons_zero, List.set_cons_succ, List.getElem_toArray, List.getElem_cons_succ, List.getElem_cons_zero]
                  refine wpAnyK_take (i := 3) (v := ?_) rfl (by kernel_rfl) (by kernel_rfl) (by kernel_rfl) (by kernel_rfl) (fun _ _ _ h => h) (Or.inl ⟨by rfl, ?_⟩) hS ?_
                  rotate_left
                  · intro w0 hS0; obtain ⟨q0, q1, q2⟩ := hS0; go_simp; try with_reducible rfl
                  simp only [Act.put, List.setIfInBounds_toArray, List.set_cons_zero, List.set_cons_succ, List.getElem_toArray, List.getElem_cons_succ, List.getElem_cons_zero]
                  refine wpAnyK_take (i := 4) (v := ?_) rfl (by kernel_rfl) (by kernel_rfl) (by kernel_rfl) (by kernel_rfl) (fun _ _ _ h => h) (Or.inl ⟨by rfl, ?_⟩) hS ?_
                  rotate_left
                  · intro w0 hS0; obtain ⟨q0, q1, q2⟩ := hS0; go_simp; try with_reducible rfl
                  simp only [Act.put, List.setIfInBounds_toArray, List.set_cons_zero, List.set_cons_succ, List.getElem_toArray, List.getElem_cons_succ, List.getElem_cons_zero]
                  refine wpAnyK_take (i := 5) (v := ?_) rfl (by kernel_rfl) (by kernel_rfl) (by kernel_rfl) (by kernel_rfl) (fun _ _ _ h => h) (Or.inl ⟨by rfl, ?_⟩) hS ?_
                  rotate_left
                  · intro w0 hS0; obtain ⟨q0, q1, q2⟩ := hS0; go_simp; try with_reducible rfl
                  simp only [Act.put, List.setIfInBounds_toArray, List.set_cons_zero, List.set_cons_succ, List.getElem_toArray, List.getElem_cons_succ, List.getElem_cons_zero]
                  refine wpAnyK_take (i := 6) (v := ?_) rfl (by kernel_rfl) (by kernel_rfl) (by kernel_rfl) (by kernel_rfl) (fun _ _ _ h => h) (Or.inl ⟨by rfl, ?_⟩) hS ?_
                  rotate_left
                  · intro w0 hS0; obtain ⟨q0, q1, q2⟩ := hS0; go_simp; try with_reducible rfl
                  simp only [Act.put, List.setIfInBounds_toArray, List.set_cons_zero, List.set_cons_succ, List.getElem_toArray, List.getElem_cons_succ, List.getElem_cons_zero]
                  refine wpAnyK_take (i := 7) (v := ?_) rfl (by kernel_rfl) (by kernel_rfl) (by kernel_rfl) (by kernel_rfl) (fun _ _ _ h => h) (Or.inl ⟨by rfl, ?_⟩) hS ?_
                  rotate_left
                  · intro w0 hS0; obtain ⟨q0, q1, q2⟩ := hS0; go_simp; try with_reducible rfl
                  simp only [Act.put, List.setIfInBounds_toArray, List.set_cons_zero, List.set_cons_succ, List.getElem_toArray, List.getElem_cons_succ, List.getElem_cons_zero]
                  clear hS c0 c1 c2
                  refine wpAnyK_one (i := 8) rfl (by kernel_rfl) rfl ?_
                  go_simp
                  refine wpAnyK_one (i := 9) rfl (by kernel_rfl) rfl ?_
                  go_simp
                  refine wpAnyK_one (i := 10) rfl (by kernel_rfl) rfl ?_
                  go_simp
                  refine wpAnyK_one (i := 11) rfl (by kernel_rfl) rfl ?_
                  refine wp_upd 68 (.tmp 68) (.tmp 70) (.tmp 75) rfl rfl rfl rfl hup ?_
                  refine ⟨fun h => absurd h (by decide), wpAnyK_done (by kernel_rfl) ?_ _⟩
                  clear hup hcv d0 d1 d2 dlt1 dlt2
                  go_wp2_with fail
                  go_roundw
                  case rel =>
                    have hsm : sb ≠ mb := fun e => by have h1 := MS5.out; rw [e, MM5.out] at h1; simp [mapObj] at h1
                    refine ⟨k' + 1, Nat.succ_le_of_lt hlt', rfl, ?_, ?_⟩
                    · rw [TS.out, ← HFK.out, SN.out]
                      rw [if_pos ⟨by trivial, .inl (by rw [SEEN.out (by trivial)]; rfl)⟩]
                    · refine ⟨_, _, _, Mem.le_set_of (Mem.le_trans LE5.out L67.out) _ HFR.out, H7.out, N7.out, by rw [Mem.set_ne _ _ hsm]; exact L67.out _ _ MS5.out, Mem.set_same _ _ _, fun hc => ?_⟩
                      rw [TS.out, ← HFK.out, SN.out] at hc
                      rw [if_pos ⟨by trivial, .inl (by rw [SEEN.out (by trivial)]; rfl)⟩] at hc
                      omega
                  case measure => simp [intOf]; omega
                | none =>
                  rw [hg] at hlk SEEN
                  have HGE := Lib.hid hg
                  clear hg
                  simp only [Option.isSome_none] at hlk
                  cases hnm : isNameB nm with
                  | false =>
                    have HNM := Lib.hid hnm
                    have isn := isName_any nm
                    rw [hnm] at isn
                    clear hnm
                    go_quiet (fail)
                    go_wp2_with ((go_at_call 52); refine (isn _).mono ?_; rintro e w' ⟨rfl, rfl⟩)
                    refine wp_opaque w _ (H4.out.drewN nq) (N4.out.drewN nq) ?_
                    intro w5 h5 n5
                    have c0 : w5.cell? ⟨sb, 0, none⟩ = some (.map (some mb)) := by rw [h5.cell MS5.out]; rfl
                    have c1 : w5.cell? ⟨ab, 0, none⟩ = some (.string nm) := by rw [h5.cell AB.out]; rfl
                    have c2 : w5.cell? ⟨ab, 1, none⟩ = some (.string by') := by rw [h5.cell AB.out]; rfl
                    obtain ⟨ba, bc, w6, m6, hcv, n6, h6, l6, row6, own6⟩ := conv_any by' w5.drew m5 h5.drew BSZ.out
                    have d0 : w6.cell? ⟨sb, 0, none⟩ = some (.map (some mb)) := by rw [h6.cell (l6 _ _ MS5.out)]; rfl
                    have d1 : w6.cell? ⟨ab, 0, none⟩ = some (.string nm) := by rw [h6.cell (l6 _ _ AB.out)]; rfl
                    have d2 : w6.cell? ⟨ab, 1, none⟩ = some (.string by') := by rw [h6.cell (l6 _ _ AB.out)]; rfl
                    have dlt1 : sb < w6.heap.size := h6.lt (l6 _ _ MS5.out)
                    have dlt2 : ab < w6.heap.size := h6.lt (l6 _ _ AB.out)
                    have h7 := h6.alloc (.cells #[.slice ba by'.size bc] 80)
                    have fr7 := h6.fresh (Nat.le_refl _)
                    have l7 := Mem.le_set m6 (.cells #[.slice ba by'.size bc] 80) fr7
                    have mb7 := l7 _ _ (l6 _ _ MM5.out)
                    have hup := run_updateF mb clock L ⟨nm, w6.heap.size, clock, .slice ba by'.size bc, by'.data.toList⟩ (w6.alloc (.cells #[.slice ba by'.size bc] 80)) (h7 _ _ mb7)
                    have H7 := Lib.hid (h7.setObj mb7 (mapObj (putE L clock ⟨nm, w6.heap.size, clock, .slice ba by'.size bc, by'.data.toList⟩).1 (putE L clock ⟨nm, w6.heap.size, clock, .slice ba by'.size bc, by'.data.toList⟩).2))
                    have N7 := Lib.hid ((((n5.drew).trans n6).alloc (.cells #[.slice ba by'.size bc] 80)).setObj mb (mapObj (putE L clock ⟨nm, w6.heap.size, clock, .slice ba by'.size bc, by'.data.toList⟩).1 (putE L clock ⟨nm, w6.heap.size, clock, .slice ba by'.size bc, by'.data.toList⟩).2))
                    have L67 := Lib.hid (Mem.le_trans l6 l7)
                    have ROW7 := Lib.hid (row6.le l7)
                    have OWN6 := Lib.hid own6
                    have FR7 := Lib.hid (Mem.none_le l6 fr7)
                    have FB7 := Lib.hid (Mem.set_same m6 w6.heap.size (.cells #[.slice ba by'.size bc] 80))
                    clear h5 n5 h6 n6 l6 row6 own6 h7 fr7 l7 mb7
                    refine wp_region_K 11 (fun w' => w'.cell? ⟨sb, 0, none⟩ = some (.map (some mb)) ∧ w'.cell? ⟨ab, 0, none⟩ = some (.string nm) ∧ w'.cell? ⟨ab, 1, none⟩ = some (.string by')) (by kernel_rfl) ?_
                    have hS : (fun w' : World => w'.cell? ⟨sb, 0, none⟩ = some (.map (some mb)) ∧ w'.cell? ⟨ab, 0, none⟩ = some (.string nm) ∧ w'.cell? ⟨ab, 1, none⟩ = some (.string by')) w5.drew := ⟨c0, c1, c2⟩
                    refine wpAnyK_take (i := 0) (v := ?_) rfl (by kernel_rfl) (by kernel_rfl) (by kernel_rfl) (by kernel_rfl) (fun _ _ _ h => h) (Or.inl ⟨by rfl, ?_⟩) hS ?_
                    rotate_left
                    · intro w0 hS0; obtain ⟨q0, q1, q2⟩ := hS0; go_simp; try with_reducible rfl
                    simp only [Act.put, List.setIfInBounds_toArray, List.set_cons_zero, List.set_cons_succ, List.getElem_toArray, List.getElem_cons_succ, List.getElem_cons_zero]
                    refine wpAnyK_take (i := 1) (v := ?_) rfl (by kernel_rfl) (by kernel_rfl) (by kernel_rfl) (by kernel_rfl) (fun _ _ _ h => h) (Or.inl ⟨by rfl, ?_⟩) hS ?_
                    rotate_left
                    · intro w0 hS0; obtain ⟨q0, q1, q2⟩ := hS0; go_simp; try with_reducible rfl
                    simp only [Act.put, List.setIfInBounds_toArray, List.set_cons_zero, List.set_cons_succ, List.getElem_toArray, List.getElem_cons_succ, List.getElem_cons_zero]
                    refine wpAnyK_take (i := 2) (v := ?_) rfl (by kernel_rfl) (by kernel_rfl) (by kernel_rfl) (by kernel_rfl) (fun _ _ _ h => h) (Or.inl ⟨by rfl, ?_⟩) hS ?_
                    rotate_left
                    · intro w0 hS0; obtain ⟨q0, q1, q2⟩ := hS0; go_simp; try with_reducible rfl
                    simp only [Act.put, List.setIfInBounds_toArray, List.set_cons_zero, List.set_cons_succ, List.getElem_toArray, List.getElem_cons_succ, List.getElem_cons_zero]
                    refine wpAnyK_take (i := 3) (v := ?_) rfl (by kernel_rfl) (by kernel_rfl) (by kernel_rfl) (by kernel_rfl) (fun _ _ _ h => h) (Or.inl ⟨by rfl, ?_⟩) hS ?_
                    rotate_left
                    · intro w0 hS0; obtain ⟨q0, q1, q2⟩ := hS0; go_simp; try with_reducible rfl
                    simp only [Act.put, List.setIfInBounds_toArray, List.set_cons_zero, List.set_cons_succ, List.getElem_toArray, List.getElem_cons_succ, List.getElem_cons_zero]
                    refine wpAnyK_take (i := 4) (v := ?_) rfl (by kernel_rfl) (by kernel_rfl) (by kernel_rfl) (by kernel_rfl) (fun _ _ _ h => h) (Or.inl ⟨by rfl, ?_⟩) hS ?_
                    rotate_left
                    · intro w0 hS0; obtain ⟨q0, q1, q2⟩ := hS0; go_simp; try with_reducible rfl
                    simp only [Act.put, List.setIfInBounds_toArray, List.set_cons_zero, List.set_cons_succ, List.getElem_toArray, List.getElem_cons_succ, List.getElem_cons_zero]
                    refine wpAnyK_take (i := 5) (v := ?_) rfl (by kernel_rfl) (by kernel_rfl) (by kernel_rfl) (by kernel_rfl) (fun _ _ _ h => h) (Or.inl ⟨by rfl, ?_⟩) hS ?_
                    rotate_left
                    · intro w0 hS0; obtain ⟨q0, q1, q2⟩ := hS0; go_simp; try with_reducible rfl
                    simp only [Act.put, List.setIfInBounds_toArray, List.set_cons_zero, List.set_cons_succ, List.getElem_toArray, List.getElem_cons_succ, List.getElem_cons_zero]
                    refine wpAnyK_take (i := 6) (v := ?_) rfl (by kernel_rfl) (by kernel_rfl) (by kernel_rfl) (by kernel_rfl) (fun _ _ _ h => h) (Or.inl ⟨by rfl, ?_⟩) hS ?_
                    rotate_left
                    · intro w0 hS0; obtain ⟨q0, q1, q2⟩ := hS0; go_simp; try with_reducible rfl
                    simp only [Act.put, List.setIfInBounds_toArray, List.set_cons_zero, List.set_cons_succ, List.getElem_toArray, List.getElem_cons_succ, List.getElem_cons_zero]
                    refine wpAnyK_take (i := 7) (v := ?_) rfl (by kernel_rfl) (by kernel_rfl) (by kernel_rfl) (by kernel_rfl) (fun _ _ _ h => h) (Or.inl ⟨by rfl, ?_⟩) hS ?_
                    rotate_left
                    · intro w0 hS0; obtain ⟨q0, q1, q2⟩ := hS0; go_simp; try with_reducible rfl
                    simp only [Act.put, List.setIfInBounds_toArray, List.set_cons_zero, List.set_cons_succ, List.getElem_toArray, List.getElem_cons_succ, List.getElem_cons_zero]
                    clear hS c0 c1 c2
                    refine wpAnyK_one (i := 8) rfl (by kernel_rfl) rfl ?_
                    go_simp
                    refine wpAnyK_one (i := 9) rfl (by kernel_rfl) rfl ?_
                    go_simp
                    refine wpAnyK_one (i := 10) rfl (by kernel_rfl) rfl ?_
                    go_simp
                    refine wpAnyK_one (i := 11) rfl (by kernel_rfl) rfl ?_
                    refine wp_upd 68 (.tmp 68) (.tmp 70) (.tmp 75) rfl rfl rfl rfl hup ?_
                    refine ⟨fun h => absurd h (by decide), wpAnyK_done (by kernel_rfl) ?_ _⟩
                    clear hup hcv d0 d1 d2 dlt1 dlt2
                    go_wp2_with fail
                    go_roundw
                    case rel =>
                      have hsm : sb ≠ mb := fun e => by have h1 := MS5.out; rw [e, MM5.out] at h1; simp [mapObj] at h1
                      refine ⟨k' + 1, Nat.succ_le_of_lt hlt', rfl, ?_, ?_⟩
                      · rw [TS.out, ← HFK.out, SN.out]
                        rw [if_pos ⟨by trivial, .inr HNM.out⟩]
                      · refine ⟨_, _, _, Mem.le_set_of (Mem.le_trans LE5.out L67.out) _ HFR.out, H7.out, N7.out, by rw [Mem.set_ne _ _ hsm]; exact L67.out _ _ MS5.out, Mem.set_same _ _ _, fun hc => ?_⟩
                        rw [TS.out, ← HFK.out, SN.out] at hc
                        rw [if_pos ⟨by trivial, .inr HNM.out⟩] at hc
                        omega
                    case measure => simp [intOf]; omega
                  | true =>
                    have HNM := Lib.hid hnm
                    have isn := isName_any nm
                    rw [hnm] at isn
                    clear hnm
                    go_quiet (fail)
                    go_wp2_with ((go_at_call 52); refine (isn _).mono ?_; rintro e w' ⟨rfl, rfl⟩)
                    refine wp_opaque w _ (H4.out.drewN nq) (N4.out.drewN nq) ?_
                    intro w5 h5 n5
                    have c0 : w5.cell? ⟨sb, 0, none⟩ = some (.map (some mb)) := by rw [h5.cell MS5.out]; rfl
                    have c1 : w5.cell? ⟨ab, 0, none⟩ = some (.string nm) := by rw [h5.cell AB.out]; rfl
                    have c2 : w5.cell? ⟨ab, 1, none⟩ = some (.string by') := by rw [h5.cell AB.out]; rfl
                    obtain ⟨ba, bc, w6, m6, hcv, n6, h6, l6, row6, own6⟩ := conv_any by' w5.drew m5 h5.drew BSZ.out
                    have d0 : w6.cell? ⟨sb, 0, none⟩ = some (.map (some mb)) := by rw [h6.cell (l6 _ _ MS5.out)]; rfl
                    have d1 : w6.cell? ⟨ab, 0, none⟩ = some (.string nm) := by rw [h6.cell (l6 _ _ AB.out)]; rfl
                    have d2 : w6.cell? ⟨ab, 1, none⟩ = some (.string by') := by rw [h6.cell (l6 _ _ AB.out)]; rfl
                    have dlt1 : sb < w6.heap.size := h6.lt (l6 _ _ MS5.out)
                    have dlt2 : ab < w6.heap.size := h6.lt (l6 _ _ AB.out)
                    have h7 := h6.alloc (.cells #[.slice ba by'.size bc] 80)
                    have fr7 := h6.fresh (Nat.le_refl _)
                    have l7 := Mem.le_set m6 (.cells #[.slice ba by'.size bc] 80) fr7
                    have mb7 := l7 _ _ (l6 _ _ MM5.out)
                    have hup := run_updateF mb clock L ⟨nm, w6.heap.size, clock, .slice ba by'.size bc, by'.data.toList⟩ (w6.alloc (.cells #[.slice ba by'.size bc] 80)) (h7 _ _ mb7)
                    have H7 := Lib.hid (h7.setObj mb7 (mapObj (putE L clock ⟨nm, w6.heap.size, clock, .slice ba by'.size bc, by'.data.toList⟩).1 (putE L clock ⟨nm, w6.heap.size, clock, .slice ba by'.size bc, by'.data.toList⟩).2))
                    have N7 := Lib.hid ((((n5.drew).trans n6).alloc (.cells #[.slice ba by'.size bc] 80)).setObj mb (mapObj (putE L clock ⟨nm, w6.heap.size, clock, .slice ba by'.size bc, by'.data.toList⟩).1 (putE L clock ⟨nm, w6.heap.size, clock, .slice ba by'.size bc, by'.data.toList⟩).2))
                    have L67 := Lib.hid (Mem.le_trans l6 l7)
                    have ROW7 := Lib.hid (row6.le l7)
                    have OWN6 := Lib.hid own6
                    have FR7 := Lib.hid (Mem.none_le l6 fr7)
                    have FB7 := Lib.hid (Mem.set_same m6 w6.heap.size (.cells #[.slice ba by'.size bc] 80))
                    clear h5 n5 h6 n6 l6 row6 own6 h7 fr7 l7 mb7
                    refine wp_region_K 11 (fun w' => w'.cell? ⟨sb, 0, none⟩ = some (.map (some mb)) ∧ w'.cell? ⟨ab, 0, none⟩ = some (.string nm) ∧ w'.cell? ⟨ab, 1, none⟩ = some (.string by')) (by kernel_rfl) ?_
                    have hS : (fun w' : World => w'.cell? ⟨sb, 0, none⟩ = some (.map (some mb)) ∧ w'.cell? ⟨ab, 0, none⟩ = some (.string nm) ∧ w'.cell? ⟨ab, 1, none⟩ = some (.string by')) w5.drew := ⟨c0, c1, c2⟩
                    refine wpAnyK_take (i := 0) (v := ?_) rfl (by kernel_rfl) (by kernel_rfl) (by kernel_rfl) (by kernel_rfl) (fun _ _ _ h => h) (Or.inl ⟨by rfl, ?_⟩) hS ?_
                    rotate_left
                    · intro w0 hS0; obtain ⟨q0, q1, q2⟩ := hS0; go_simp; try with_reducible rfl
                    simp only [Act.put, List.setIfInBounds_toArray, List.set_cons_zero, List.set_cons_succ, List.getElem_toArray, List.getElem_cons_succ, List.getElem_cons_zero]
                    refine wpAnyK_take (i := 1) (v := ?_) rfl (by kernel_rfl) (by kernel_rfl) (by kernel_rfl) (by kernel_rfl) (fun _ _ _ h => h) (Or.inl ⟨by rfl, ?_⟩) hS ?_
                    rotate_left
                    · intro w0 hS0; obtain ⟨q0, q1, q2⟩ := hS0; go_simp; try with_reducible rfl
                    simp only [Act.put, List.setIfInBounds_toArray, List.set_cons_zero, List.set_cons_succ, List.getElem_toArray, List.getElem_cons_succ, List.getElem_cons_zero]
                    refine wpAnyK_take (i := 2) (v := ?_) rfl (by kernel_rfl) (by kernel_rfl) (by kernel_rfl) (by kernel_rfl) (fun _ _ _ h => h) (Or.inl ⟨by rfl, ?_⟩) hS ?_
                    rotate_left
                    · intro w0 hS0; obtain ⟨q0, q1, q2⟩ := hS0; go_simp; try with_reducible rfl
                    simp only [Act.put, List.setIfInBounds_toArray, List.set_cons_zero, List.set_cons_succ, List.getElem_toArray, List.getElem_cons_succ, List.getElem_cons_zero]
                    refine wpAnyK_take (i := 3) (v := ?_) rfl (by kernel_rfl) (by kernel_rfl) (by kernel_rfl) (by kernel_rfl) (fun _ _ _ h => h) (Or.inl ⟨by rfl, ?_⟩) hS ?_
                    rotate_left
                    · intro w0 hS0; obtain ⟨q0, q1, q2⟩ := hS0; go_simp; try with_reducible rfl
                    simp only [Act.put, List.setIfInBounds_toArray, List.set_cons_zero, List.set_cons_succ, List.getElem_toArray, List.getElem_cons_succ, List.getElem_cons_zero]
                    refine wpAnyK_take (i := 4) (v := ?_) rfl (by kernel_rfl) (by kernel_rfl) (by kernel_rfl) (by kernel_rfl) (fun _ _ _ h => h) (Or.inl ⟨by rfl, ?_⟩) hS ?_
                    rotate_left
                    · intro w0 hS0; obtain ⟨q0, q1, q2⟩ := hS0; go_simp; try with_reducible rfl
                    simp only [Act.put, List.setIfInBounds_toArray, List.set_cons_zero, List.set_cons_succ, List.getElem_toArray, List.getElem_cons_succ, List.getElem_cons_zero]
                    refine wpAnyK_take (i := 5) (v := ?_) rfl (by kernel_rfl) (by kernel_rfl) (by kernel_rfl) (by kernel_rfl) (fun _ _ _ h => h) (Or.inl ⟨by rfl, ?_⟩) hS ?_
                    rotate_left
                    · intro w0 hS0; obtain ⟨q0, q1, q2⟩ := hS0; go_simp; try with_reducible rfl
                    simp only [Act.put, List.setIfInBounds_toArray, List.set_cons_zero, List.set_cons_succ, List.getElem_toArray, List.getElem_cons_succ, List.getElem_cons_zero]
                    refine wpAnyK_take (i := 6) (v := ?_) rfl (by kernel_rfl) (by kernel_rfl) (by kernel_rfl) (by kernel_rfl) (fun _ _ _ h => h) (Or.inl ⟨by rfl, ?_⟩) hS ?_
                    rotate_left
                    · intro w0 hS0; obtain ⟨q0, q1, q2⟩ := hS0; go_simp; try with_reducible rfl
                    simp only [Act.put, List.setIfInBounds_toArray, List.set_cons_zero, List.set_cons_succ, List.getElem_toArray, List.getElem_cons_succ, List.getElem_cons_zero]
                    refine wpAnyK_take (i := 7) (v := ?_) rfl (by kernel_rfl) (by kernel_rfl) (by kernel_rfl) (by kernel_rfl) (fun _ _ _ h => h) (Or.inl ⟨by rfl, ?_⟩) hS ?_
                    rotate_left
                    · intro w0 hS0; obtain ⟨q0, q1, q2⟩ := hS0; go_simp; try with_reducible rfl
                    simp only [Act.put, List.setIfInBounds_toArray, List.set_cons_zero, List.set_cons_succ, List.getElem_toArray, List.getElem_cons_succ, List.getElem_cons_zero]
                    clear hS c0 c1 c2
                    refine wpAnyK_one (i := 8) rfl (by kernel_rfl) rfl ?_
                    go_simp
                    refine wpAnyK_one (i := 9) rfl (by kernel_rfl) rfl ?_
                    go_simp
                    refine wpAnyK_one (i := 10) rfl (by kernel_rfl) rfl ?_
                    go_simp
                    refine wpAnyK_one (i := 11) rfl (by kernel_rfl) rfl ?_
                    refine wp_upd 68 (.tmp 68) (.tmp 70) (.tmp 75) rfl rfl rfl rfl hup ?_
                    refine ⟨fun h => absurd h (by decide), wpAnyK_done (by kernel_rfl) ?_ _⟩
                    clear hup hcv d0 d1 d2 dlt1 dlt2
                    go_wp2_with fail
                    go_roundw
                    case rel =>
                      have hsm : sb ≠ mb := fun e => by have h1 := MS5.out; rw [e, MM5.out] at h1; simp [mapObj] at h1
                      refine ⟨k' + 1, Nat.succ_le_of_lt hlt', rfl, ?_, ?_⟩
                      · rw [TS.out, ← HFK.out, SN.out]
                        rw [if_neg (by
                          rintro ⟨_, h | h⟩
                          · rw [SEEN.out (by trivial)] at h; cases h
                          · rw [HNM.out] at h; cases h)]
                      · refine ⟨_, _, _, Mem.le_set_of (Mem.le_trans LE5.out L67.out) _ HFR.out, H7.out, N7.out, by rw [Mem.set_ne _ _ hsm]; exact L67.out _ _ MS5.out, Mem.set_same _ _ _, fun hc => ?_⟩
                        rw [TS.out, ← HFK.out, SN.out] at hc
                        obtain ⟨x1, x2, x3⟩ := G5.out (by trivial)
                        have hE0 := scanE_zero HZ.out
                        obtain ⟨o1, _, o3⟩ := newOk (HEE.out.trans hE0)
                        have hput : putE L clock ⟨nm, w6.heap.size, clock, .slice ba by'.size bc, by'.data.toList⟩ = (L ++ [⟨nm, w6.heap.size, clock, .slice ba by'.size bc, by'.data.toList⟩], clock + 1) := by
                          unfold putE; rw [findAt_noneE HGE.out]
                        rw [hput]
                        have hlen : L.length = k' := by
                          have := congrArg List.length x2
                          rw [List.length_map, List.length_map, List.length_take] at this
                          omega
                        have nmb : w6.heap.size ≠ mb := fun e => by have := MM5.out; rw [← e, FR7.out] at this; cases this
                        have nown : (Value.slice ba by'.size bc).ownBlock ≠ some mb := fun e => by have := MM5.out; rw [OWN6.out _ e] at this; cases this
                        refine ⟨SRep.addL (g := ⟨mb, clock, L, .slice va xl.length vc, .slice none 0 0, [], xl, 0⟩) x1 ⟨nm, w6.heap.size, clock, .slice ba by'.size bc, by'.data.toList⟩ rfl (fun b o hb hne => by rw [Mem.set_ne _ _ hne]; exact L67.out _ _ hb) (Mem.set_same _ _ _)
                          (by rw [Mem.set_ne _ _ nmb]; exact FB7.out) (ROW7.out.set_other _ nown) FR7.out OWN6.out HGE.out HNM.out (by show L.length < 100; omega) (o3 _ MEM0.out), ?_, fun b hb => ?_⟩
                        · rw [TS.out, ← HFK.out, List.map_append, List.map_append, x2]; rfl
                        · rcases FP_addL (g := ⟨mb, clock, L, .slice va xl.length vc, .slice none 0 0, [], xl, 0⟩) hb with y | y | y
                          · exact x3 b y
                          · rw [show b = w6.heap.size from y]; exact Mem.none_le LE5.out FR7.out
                          · exact Mem.none_le LE5.out (OWN6.out _ y)
                    case measure => simp [intOf]; omega
              · have hzb : (z == 0) = false := by simpa using hz0
                have HZ0 := Lib.hid hz0
                clear hz0
                go_quiet (fail)
                go_wp2_with fail
                refine wp_opaque w _ (H4.out.drewN nq) (N4.out.drewN nq) ?_
                intro w5 h5 n5
                have c0 : w5.cell? ⟨sb, 0, none⟩ = some (.map (some mb)) := by rw [h5.cell MS5.out]; rfl
                have c1 : w5.cell? ⟨ab, 0, none⟩ = some (.string nm) := by rw [h5.cell AB.out]; rfl
                have c2 : w5.cell? ⟨ab, 1, none⟩ = some (.string by') := by rw [h5.cell AB.out]; rfl
                obtain ⟨ba, bc, w6, m6, hcv, n6, h6, l6, row6, own6⟩ := conv_any by' w5.drew m5 h5.drew BSZ.out
                have d0 : w6.cell? ⟨sb, 0, none⟩ = some (.map (some mb)) := by rw [h6.cell (l6 _ _ MS5.out)]; rfl
                have d1 : w6.cell? ⟨ab, 0, none⟩ = some (.string nm) := by rw [h6.cell (l6 _ _ AB.out)]; rfl
                have d2 : w6.cell? ⟨ab, 1, none⟩ = some (.string by') := by rw [h6.cell (l6 _ _ AB.out)]; rfl
                have dlt1 : sb < w6.heap.size := h6.lt (l6 _ _ MS5.out)
                have dlt2 : ab < w6.heap.size := h6.lt (l6 _ _ AB.out)
                have h7 := h6.alloc (.cells #[.slice ba by'.size bc] 80)
                have fr7 := h6.fresh (Nat.le_refl _)
                have l7 := Mem.le_set m6 (.cells #[.slice ba by'.size bc] 80) fr7
                have mb7 := l7 _ _ (l6 _ _ MM5.out)
                have hup := run_updateF mb clock L ⟨nm, w6.heap.size, clock, .slice ba by'.size bc, by'.data.toList⟩ (w6.alloc (.cells #[.slice ba by'.size bc] 80)) (h7 _ _ mb7)
                have H7 := Lib.hid (h7.setObj mb7 (mapObj (putE L clock ⟨nm, w6.heap.size, clock, .slice ba by'.size bc, by'.data.toList⟩).1 (putE L clock ⟨nm, w6.heap.size, clock, .slice ba by'.size bc, by'.data.toList⟩).2))
                have N7 := Lib.hid ((((n5.drew).trans n6).alloc (.cells #[.slice ba by'.size bc] 80)).setObj mb (mapObj (putE L clock ⟨nm, w6.heap.size, clock, .slice ba by'.size bc, by'.data.toList⟩).1 (putE L clock ⟨nm, w6.heap.size, clock, .slice ba by'.size bc, by'.data.toList⟩).2))
                have L67 := Lib.hid (Mem.le_trans l6 l7)
                have ROW7 := Lib.hid (row6.le l7)
                have OWN6 := Lib.hid own6
                have FR7 := Lib.hid (Mem.none_le l6 fr7)
                have FB7 := Lib.hid (Mem.set_same m6 w6.heap.size (.cells #[.slice ba by'.size bc] 80))
                clear h5 n5 h6 n6 l6 row6 own6 h7 fr7 l7 mb7
                refine wp_region_K 11 (fun w' => w'.cell? ⟨sb, 0, none⟩ = some (.map (some mb)) ∧ w'.cell? ⟨ab, 0, none⟩ = some (.string nm) ∧ w'.cell? ⟨ab, 1, none⟩ = some (.string by')) (by kernel_rfl) ?_
                have hS : (fun w' : World => w'.cell? ⟨sb, 0, none⟩ = some (.map (some mb)) ∧ w'.cell? ⟨ab, 0, none⟩ = some (.string nm) ∧ w'.cell? ⟨ab, 1, none⟩ = some (.string by')) w5.drew := ⟨c0, c1, c2⟩
                refine wpAnyK_take (i := 0) (v := ?_) rfl (by kernel_rfl) (by kernel_rfl) (by kernel_rfl) (by kernel_rfl) (fun _ _ _ h => h) (Or.inl ⟨by rfl, ?_⟩) hS ?_
                rotate_left
                · intro w0 hS0; obtain ⟨q0, q1, q2⟩ := hS0; go_simp; try with_reducible rfl
                simp only [Act.put, List.setIfInBounds_toArray, List.set_cons_zero, List.set_cons_succ, List.getElem_toArray, List.getElem_cons_succ, List.getElem_cons_zero]
                refine wpAnyK_take (i := 1) (v := ?_) rfl (by kernel_rfl) (by kernel_rfl) (by kernel_rfl) (by kernel_rfl) (fun _ _ _ h => h) (Or.inl ⟨by rfl, ?_⟩) hS ?_
                rotate_left
                · intro w0 hS0; obtain ⟨q0, q1, q2⟩ := hS0; go_simp; try with_reducible rfl
                simp only [Act.put, List.setIfInBounds_toArray, List.set_cons_zero, List.set_cons_succ, List.getElem_toArray, List.getElem_cons_succ, List.getElem_cons_zero]
                refine wpAnyK_take (i := 2) (v := ?_) rfl (by kernel_rfl) (by kernel_rfl) (by kernel_rfl) (by kernel_rfl) (fun _ _ _ h => h) (Or.inl ⟨by rfl, ?_⟩) hS ?_
                rotate_left
                · intro w0 hS0; obtain ⟨q0, q1, q2⟩ := hS0; go_simp; try with_reducible rfl
                simp only [Act.put, List.setIfInBounds_toArray, List.set_cons_zero, List.set_cons_succ, List.getElem_toArray, List.getElem_cons_succ, List.getElem_cons_zero]
                refine wpAnyK_take (i := 3) (v := ?_) rfl (by kernel_rfl) (by kernel_rfl) (by kernel_rfl) (by kernel_rfl) (fun _ _ _ h => h) (Or.inl ⟨by rfl, ?_⟩) hS ?_
                rotate_left
                · intro w0 hS0; obtain ⟨q0, q1, q2⟩ := hS0; go_simp; try with_reducible rfl
                simp only [Act.put, List.setIfInBounds_toArray, List.set_cons_zero, List.set_cons_succ, List.getElem_toArray, List.getElem_cons_succ, List.getElem_cons_zero]
                refine wpAnyK_take (i := 4) (v := ?_) rfl (by kernel_rfl) (by kernel_rfl) (by kernel_rfl) (by kernel_rfl) (fun _ _ _ h => h) (Or.inl ⟨by rfl, ?_⟩) hS ?_
                rotate_left
                · intro w0 hS0; obtain ⟨q0, q1, q2⟩ := hS0; go_simp; try with_reducible rfl
                simp only [Act.put, List.setIfInBounds_toArray, List.set_cons_zero, List.set_cons_succ, List.getElem_toArray, List.getElem_cons_succ, List.getElem_cons_zero]
                refine wpAnyK_take (i := 5) (v := ?_) rfl (by kernel_rfl) (by kernel_rfl) (by kernel_rfl) (by kernel_rfl) (fun _ _ _ h => h) (Or.inl ⟨by rfl, ?_⟩) hS ?_
                rotate_left
                · intro w0 hS0; obtain ⟨q0, q1, q2⟩ := hS0; go_simp; try with_reducible rfl
                simp only [Act.put, List.setIfInBounds_toArray, List.set_cons_zero, List.set_cons_succ, List.getElem_toArray, List.getElem_cons_succ, List.getElem_cons_zero]
                refine wpAnyK_take (i := 6) (v := ?_) rfl (by kernel_rfl) (by kernel_rfl) (by kernel_rfl) (by kernel_rfl) (fun _ _ _ h => h) (Or.inl ⟨by rfl, ?_⟩) hS ?_
                rotate_left
                · intro w0 hS0; obtain ⟨q0, q1, q2⟩ := hS0; go_simp; try with_reducible rfl
                simp only [Act.put, List.setIfInBounds_toArray, List.set_cons_zero, List.set_cons_succ, List.getElem_toArray, List.getElem_cons_succ, List.getElem_cons_zero]
                refine wpAnyK_take (i := 7) (v := ?_) rfl (by kernel_rfl) (by kernel_rfl) (by kernel_rfl) (by kernel_rfl) (fun _ _ _ h => h) (Or.inl ⟨by rfl, ?_⟩) hS ?_
                rotate_left
                · intro w0 hS0; obtain ⟨q0, q1, q2⟩ := hS0; go_simp; try with_reducible rfl
                simp only [Act.put, List.setIfInBounds_toArray, List.set_cons_zero, List.set_cons_succ, List.getElem_toArray, List.getElem_cons_succ, List.getElem_cons_zero]
                clear hS c0 c1 c2
                refine wpAnyK_one (i := 8) rfl (by kernel_rfl) rfl ?_
                go_simp
                refine wpAnyK_one (i := 9) rfl (by kernel_rfl) rfl ?_
                go_simp
                refine wpAnyK_one (i := 10) rfl (by kernel_rfl) rfl ?_
                go_simp
                refine wpAnyK_one (i := 11) rfl (by kernel_rfl) rfl ?_
                refine wp_upd 68 (.tmp 68) (.tmp 70) (.tmp 75) rfl rfl rfl rfl hup ?_
                refine ⟨fun h => absurd h (by decide), wpAnyK_done (by kernel_rfl) ?_ _⟩
                clear hup hcv d0 d1 d2 dlt1 dlt2
                go_wp2_with fail
                go_roundw
                case rel =>
                  have hsm : sb ≠ mb := fun e => by have h1 := MS5.out; rw [e, MM5.out] at h1; simp [mapObj] at h1
                  refine ⟨k' + 1, Nat.succ_le_of_lt hlt', rfl, ?_, ?_⟩
                  · rw [TS.out, ← HFK.out, SN.out]
                    rw [if_neg (fun h => HZ0.out h.1)]
                  · refine ⟨_, _, _, Mem.le_set_of (Mem.le_trans LE5.out L67.out) _ HFR.out, H7.out, N7.out, by rw [Mem.set_ne _ _ hsm]; exact L67.out _ _ MS5.out, Mem.set_same _ _ _, fun hc => ?_⟩
                    rw [TS.out, ← HFK.out, SN.out] at hc
                    rw [if_neg (fun h => HZ0.out h.1)] at hc
                    exact absurd hc HZ0.out
                case measure => simp [intOf]; omega
            · have TL' := Lib.hid (show fl.take k' = fl from List.take_of_length_le (by omega))
              rw [TL'.out] at HG ⊢
              obtain ⟨z, hz⟩ : ∃ z, scanE E fl = z := ⟨_, rfl⟩
              rw [hz] at HG ⊢
              have HZ : Hid (newE fl xl.length = z) := Lib.hid (by unfold newE; rw [HEE.out]; exact hz)
              clear hz
              by_cases hz0 : z = 0
              · subst hz0
                go_wp2_with fail
                refine bodyPost_ret (v := .tuple #[.pointer (some ⟨sb, 0, none⟩), .int .i64 0]) (by simp [results, Tryz.results18, go_sem]) rfl ?_
                obtain ⟨x1, x2, x3⟩ := HG.out (by trivial)
                exact Post.mk mr' LR.out HW.out NR.out ⟨fun _ => ⟨sb, _, rfl, x1, x3, x2, rfl, rfl, rfl⟩, fun h => absurd HZ.out h⟩
              · have hzb : (z != 0) = true := by simpa using hz0
                have HZ0 := Lib.hid hz0
                clear hz0
                go_wp2_with fail
                refine bodyPost_ret (v := .tuple #[.pointer none, .int .i64 z]) (by simp [results, Tryz.results18, go_sem]) rfl ?_
                exact Post.mk mr' LR.out HW.out NR.out ⟨fun h => absurd (HZ.out.symm.trans h) HZ0.out, fun _ => by rw [HZ.out]⟩
  refine main ?_
  unfold newE1 at he1
  by_cases h1 : 100 < fl.length
  · rw [if_pos (.inl h1)] at he1; exact .inl ⟨by omega, he1.symm⟩
  · by_cases h2 : 1000 < xl.length
    · rw [if_pos (.inr h2)] at he1; exact .inr (.inl ⟨by omega, by omega, he1.symm⟩)
    · rw [if_neg (by omega)] at he1; exact .inr (.inr ⟨by omega, by omega, he1.symm⟩)
end Go.Proofs.YtcdmdkgiabfbeaaGreatDoor
