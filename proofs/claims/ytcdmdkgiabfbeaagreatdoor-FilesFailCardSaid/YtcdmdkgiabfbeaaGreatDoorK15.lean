/-
  The document's New.
-/
import Derived.Test.YtcdmdkgiabfbeaaGreatDoorK14
namespace Go.Proofs.YtcdmdkgiabfbeaaGreatDoor
open Go.RowKit

theorem infoRF : (Tryz.prog.info? 100).map (fun i => (i.zero, i.size, i.bytes)) = some (some (.agg #[.string ⟨#[]⟩, .slice none 0 0]), 2, 40) := by kernel_rfl
theorem infoRO : (Tryz.prog.info? 115).map (fun i => (i.zero, i.size, i.bytes)) = some (some (.agg #[.int .i64 0, .int .i64 0, .int .i64 0]), 3, 24) := by kernel_rfl
theorem infoFail : (Tryz.prog.info? 47).map (fun i => (i.zero, i.size, i.bytes)) = some (some (.agg #[.int .i64 0, .int .i64 0, .int .i64 0]), 3, 24) := by kernel_rfl
theorem ro33 : (List.replicate 33 ([.int .i64 0, .int .i64 0, .int .i64 0] : List Value)).flatten = (List.replicate 33 (⟨0, 0, 0⟩ : RO)).flatMap roCells := by rfl

def rf0 : RF := ⟨⟨#[]⟩, .slice none 0 0, []⟩

def NewRR (m : Mem) (fl : List File2) (xl : List Fail3) (v : Value) (m' : Mem) : Prop :=
  (newE fl xl.length = 0 → ∃ rb r, v = .tuple #[.pointer (some ⟨rb, 0, none⟩), .int .i64 0] ∧ RRep m' rb r ∧ (∀ b, RFP rb r b → m b = none) ∧
    r.F.map (fun f => (f.name, f.bs)) = (⟨#[]⟩, []) :: fl.map (fun f => (f.1, f.2.data.toList)) ∧ r.O = List.replicate 33 ⟨0, 0, 0⟩ ∧ r.X = xl ∧ r.n = 0) ∧
  (newE fl xl.length ≠ 0 → v = .tuple #[.pointer none, .int .i64 (newE fl xl.length)])

/-- What the second loop keeps. -/
def RI (w : World) (m : Mem) (rb : Nat) (fl : List File2) (ov : Value) (k : Nat) (wr : World) : Prop :=
  ∃ mr fv F, m.le mr ∧ Has wr mr ∧ Env w wr ∧ RRep mr rb ⟨fv, F, ov, List.replicate 33 ⟨0, 0, 0⟩, .slice none 0 0, [], 0, (0, 0, 0)⟩ ∧ (∀ b, RFP rb ⟨fv, F, ov, List.replicate 33 ⟨0, 0, 0⟩, .slice none 0 0, [], 0, (0, 0, 0)⟩ b → m b = none) ∧
    F.map (fun f => (f.name, f.bs)) = (⟨#[]⟩, []) :: (fl.take k).map (fun f => (f.1, f.2.data.toList))

theorem RI.len {fl : List File2} {k : Nat} {F : List RF} (hk : k ≤ fl.length) (h : F.map (fun f => (f.name, f.bs)) = (⟨#[]⟩, []) :: (fl.take k).map (fun f => (f.1, f.2.data.toList))) : F.length = k + 1 := by
  have := congrArg List.length h
  simp only [List.length_map, List.length_cons, List.length_take] at this
  omega

/-- The world of a walk, forgotten but for one thing. -/
theorem wp_with {P : Program} {c : Code} {Q : Exit → Act → World → Prop} {a : Act} {w : World} (I : World → Prop) (h : I w) (k : ∀ w1, I w1 → c.wp P Q a w1) : c.wp P Q a w := k w h

theorem newE_bad {fl : List File2} {nf : Nat} {k : Nat} (h0 : sizeE (newE1 fl nf) fl = 0) (hk : k < fl.length) (hbad : ¬ (isNameB fl[k].1 = true ∧ ∀ f ∈ fl.take k, f.1 ≠ fl[k].1)) : newE fl nf = 1 := by
  unfold newE
  rw [h0]
  unfold scanE
  rw [if_neg (by simp), if_neg]
  rintro ⟨h1, h2⟩
  refine hbad ⟨h2 _ (List.getElem_mem hk), fun f hf he => ?_⟩
  have h3 : fl = fl.take k ++ fl[k] :: fl.drop (k + 1) := by rw [List.getElem_cons_drop hk, List.take_append_drop]
  rw [h3, List.map_append, List.nodup_append] at h1
  exact h1.2.2 f.1 (List.mem_map_of_mem hf) fl[k].1 (by rw [List.map_cons]; exact List.mem_cons_self ..) he
theorem newE_good {fl : List File2} {nf : Nat} (h0 : sizeE (newE1 fl nf) fl = 0) (h1 : (fl.map Prod.fst).Nodup) (h2 : ∀ f ∈ fl, isNameB f.1 = true) : newE fl nf = 0 := by
  unfold newE
  rw [h0]
  unfold scanE
  rw [if_neg (by simp), if_pos ⟨h1, h2⟩]
theorem newE_big {fl : List File2} {nf : Nat} {f : File2} (hf : f ∈ fl) (hb : bigB f = true) : newE fl nf = 2 := by
  unfold newE sizeE
  rw [if_pos (List.any_eq_true.2 ⟨f, hf, hb⟩)]
  unfold scanE
  rw [if_pos (by decide)]

/-- append of a window. -/
theorem run_append_win (t ty e : TypeId) (i : TypeInfo) (z : Value) (k bytes : Nat) {w : World} {m : Mem} (ht : Tryz.prog.underlying t = some (.slice e)) (hi : Tryz.prog.info? e = some i) (hz : i.zero = some z)
    (hsize : i.size = k) (hby : i.bytes = bytes) (hzs : z.cells.size = k) (hk : 0 < k) (hm : Has w m)
    (v : Value) (n : Nat) (xs : List Value) (hrow : Row m v e k n xs) (y : Value) (j : Nat) (news : List Value) (hy : WindK m y j news) (hl : news.length = j * k) (h1 : ∀ u ∈ news, u.oneCell' = true)
    (hbytes : (n + j) * bytes ≤ 140737488355328) (hmax : n + j ≤ 140737488355328) :
    ∃ v' w' m', (Builtin.append_ #[t, t] ty #[v, y]).run Tryz.prog w = .ok v' w' ∧ Env w w' ∧ Has w' m' ∧ Row m' v' e k (n + j) (xs ++ news) ∧ Grows m m' v v' := by
  rcases Nat.eq_zero_or_pos j with h0 | h0
  · subst h0
    have hn0 : news = [] := List.eq_nil_of_length_eq_zero (by omega)
    subst hn0
    have hs : Src Tryz.prog i.size t y 0 [] w := by
      rcases hy with ⟨rfl, _⟩ | ⟨A, cap, rfl, _⟩
      · exact Src.ofNil w ht _
      · exact Src.ofSlice w ht A 0 cap [] (by simp) (by simp) (by simp)
    obtain ⟨va, vc, rfl, hle⟩ := hrow.lenV
    exact ⟨_, _, _, run_append_nothing w t t ty e i ht hi va n vc hle y hs, Env.refl _, hm, by simpa using hrow, .inl ⟨rfl, rfl⟩⟩
  · obtain ⟨g, o, cap, rfl, hc⟩ := hy.cells h0
    exact run_append_row (P := Tryz.prog) t ty e i z k bytes ht hi hz hsize hby hzs hk hm v n xs hrow g o j cap news hl hc h1 h0 hbytes hmax

set_option maxHeartbeats 16000000 in
set_option maxRecDepth 100000 in
theorem newref_any (fv xv : Value) (fl : List File2) (xl : List Fail3) (w : World) (m : Mem) (hm : Has w m) (hf : Files2 m fv fl) (hx : WindK m xv xl.length (xl.flatMap failCells)) (hfl : fl.length ≤ 1000000) (hxl : xl.length ≤ 1000000)
    (hbs : ∀ f ∈ fl, f.2.size ≤ 1000000000) :
    Calls Tryz.prog 19 #[fv, xv] w (Post w m (NewRR m fl xl)) := by
  obtain ⟨fa, fc, rfl⟩ := hf.shape
  obtain ⟨xa, xc, rfl⟩ := hx.shape
  have H := Lib.hid hm
  have HF := Lib.hid hf
  have HX := Lib.hid hx
  have HBS := Lib.hid hbs
  clear hm hf hx hbs
  have big : ∀ (h : 100 < fl.length ∨ 1000 < xl.length), newE fl xl.length = 2 := fun h => by
    unfold newE sizeE newE1 scanE
    rw [if_pos h]
    simp
  by_cases g1 : 100 < (fl.length : Int)
  · have HE := Lib.hid (big (.inl (by omega)))
    clear big
    go_enter Tryz.func19, Tryz.ntmps19
    go_wp2_with fail
    refine bodyPost_ret (v := .tuple #[.pointer none, .int .i64 2]) (by simp [results, Tryz.results19, go_sem]) rfl ?_
    exact Post.mk (R := NewRR m fl xl) m (Mem.le_refl _) H.out (Env.refl _) ⟨fun h => (by rw [HE.out] at h; cases h), fun _ => by rw [HE.out]⟩
  by_cases g2 : 1000 < (xl.length : Int)
  · have HE := Lib.hid (big (.inr (by omega)))
    clear big
    go_enter Tryz.func19, Tryz.ntmps19
    go_wp2_with fail
    refine bodyPost_ret (v := .tuple #[.pointer none, .int .i64 2]) (by simp [results, Tryz.results19, go_sem]) rfl ?_
    exact Post.mk (R := NewRR m fl xl) m (Mem.le_refl _) H.out (Env.refl _) ⟨fun h => (by rw [HE.out] at h; cases h), fun _ => by rw [HE.out]⟩
  clear big
  have HE1 : Hid (newE1 fl xl.length = 0) := Lib.hid (by unfold newE1; rw [if_neg (by omega)])
  have fr1 := H.out.fresh (Nat.le_refl w.heap.size)
  have h1 := H.out.alloc (.cells #[.string ⟨#[]⟩, .slice none 0 0] 100)
  have l1 := Mem.le_set m (.cells #[.string ⟨#[]⟩, .slice none 0 0] 100) fr1
  obtain ⟨i0, hi, hz0, hz1, hz2⟩ := info_parts infoRO
  obtain ⟨w2, m2, hmk, n2, h2, l2, row2, fr2⟩ := run_make_row 56 115 i0 _ [.int .i64 0, .int .i64 0, .int .i64 0] 24 Tryz.underlying56 hi hz0 hz1 hz2 rfl _ _ h1 33 (by omega) (by omega)
  rw [ro33] at row2
  have hsz : (w.alloc (.cells #[.string ⟨#[]⟩, .slice none 0 0] 100)).heap.size = w.heap.size + 1 := by simp
  rw [hsz] at hmk row2 fr2
  have hmk' : (Instr.makeSlice 56 (.int .i64 33) (.int .i64 33)).run Tryz.prog (w.alloc (.cells #[.string ⟨#[]⟩, .slice none 0 0] 100)) = .ok (.slice (some ⟨w.heap.size + 1, 0, none⟩) 33 33) w2 := hmk
  clear hmk
  have fr3 := h2.fresh (Nat.le_refl w2.heap.size)
  have h3 := h2.alloc (rstoreObj ⟨.slice (some ⟨w.heap.size, 0, none⟩) 1 1, [rf0], .slice (some ⟨w.heap.size + 1, 0, none⟩) 33 33, List.replicate 33 ⟨0, 0, 0⟩, .slice none 0 0, [], 0, (0, 0, 0)⟩)
  have l3 := Mem.le_set m2 (rstoreObj ⟨.slice (some ⟨w.heap.size, 0, none⟩) 1 1, [rf0], .slice (some ⟨w.heap.size + 1, 0, none⟩) 33 33, List.replicate 33 ⟨0, 0, 0⟩, .slice none 0 0, [], 0, (0, 0, 0)⟩) fr3
  have r3 : RRep (m2.set w2.heap.size (rstoreObj ⟨.slice (some ⟨w.heap.size, 0, none⟩) 1 1, [rf0], .slice (some ⟨w.heap.size + 1, 0, none⟩) 33 33, List.replicate 33 ⟨0, 0, 0⟩, .slice none 0 0, [], 0, (0, 0, 0)⟩)) w2.heap.size
      ⟨.slice (some ⟨w.heap.size, 0, none⟩) 1 1, [rf0], .slice (some ⟨w.heap.size + 1, 0, none⟩) 33 33, List.replicate 33 ⟨0, 0, 0⟩, .slice none 0 0, [], 0, (0, 0, 0)⟩ :=
    { store := Mem.set_same _ _ _
      files := ⟨rfl, .inr ⟨w.heap.size, 1, _, _, rfl, l3 _ _ (l2 _ _ (Mem.set_same _ _ _)), Thaw.zero _, Nat.le_refl _, by decide, by simp, rfl⟩⟩
      bytes := fun f hf => by obtain rfl := List.mem_singleton.1 hf; exact Row.nil _ _ _
      sep := by simp
      opens := row2.le l3
      olen := by simp
      fails := Row.nil _ _ _
      xlen := by simp
      head := ⟨rf0, [], rfl, rfl⟩
      flen := by simp
      names := by simp [rf0]
      named := fun f hf hn => by obtain rfl := List.mem_singleton.1 hf; exact absurd rfl hn
      bsz := fun f hf => by obtain rfl := List.mem_singleton.1 hf; simp [rf0]
      ofile := fun o ho => by rw [(List.mem_replicate.1 ho).2]; exact .inl rfl
      opos := fun o ho => by rw [(List.mem_replicate.1 ho).2]; exact Nat.zero_le _ }
  have new3 : ∀ b, RFP w2.heap.size ⟨.slice (some ⟨w.heap.size, 0, none⟩) 1 1, [rf0], .slice (some ⟨w.heap.size + 1, 0, none⟩) 33 33, List.replicate 33 ⟨0, 0, 0⟩, .slice none 0 0, [], 0, (0, 0, 0)⟩ b → m b = none := by
    rintro b (rfl | h | h | h | ⟨f, hf, h⟩)
    · exact Mem.none_le l1 (Mem.none_le l2 fr3)
    · obtain rfl : w.heap.size = b := Option.some.inj h; exact fr1
    · obtain rfl : w.heap.size + 1 = b := Option.some.inj h; exact Mem.none_le l1 fr2
    · cases h
    · obtain rfl := List.mem_singleton.1 hf; cases h
  have LM := Lib.hid (Mem.le_trans l1 (Mem.le_trans l2 l3))
  have H3 := Lib.hid h3
  have R3 := Lib.hid r3
  have NW3 := Lib.hid new3
  have N3 := Lib.hid ((((Env.refl w).alloc (.cells #[.string ⟨#[]⟩, .slice none 0 0] 100)).trans n2).alloc (rstoreObj ⟨.slice (some ⟨w.heap.size, 0, none⟩) 1 1, [rf0], .slice (some ⟨w.heap.size + 1, 0, none⟩) 33 33, List.replicate 33 ⟨0, 0, 0⟩, .slice none 0 0, [], 0, (0, 0, 0)⟩))
  clear fr1 h1 l1 hi hz0 hz1 hz2 n2 h2 l2 row2 fr2 fr3 h3 l3 r3 new3 hsz
  go_enter Tryz.func19, Tryz.ntmps19
  go_wp2_with fail
  have HI0 : Hid (RI w m w2.heap.size fl (.slice (some ⟨w.heap.size + 1, 0, none⟩) 33 33) 0 (w2.alloc (rstoreObj ⟨.slice (some ⟨w.heap.size, 0, none⟩) 1 1, [rf0], .slice (some ⟨w.heap.size + 1, 0, none⟩) 33 33, List.replicate 33 ⟨0, 0, 0⟩, .slice none 0 0, [], 0, (0, 0, 0)⟩))) :=
    Lib.hid ⟨_, _, _, LM.out, H3.out, N3.out, R3.out, NW3.out, rfl⟩
  refine wp_with (RI w m w2.heap.size fl (.slice (some ⟨w.heap.size + 1, 0, none⟩) 33 33) 0) HI0.out ?_
  intro w3 hi3
  have HI := Lib.hid hi3
  clear hi3 HI0 LM H3 R3 NW3 N3 hmk'
  generalize w2.heap.size = rb at *
  generalize (Value.slice (some ⟨w.heap.size + 1, 0, none⟩) 33 33) = ov at *
  go_loop [7] (fun i => ∃ k : Nat, k ≤ fl.length ∧ i = .int .i64 k ∧ Hid (∀ f ∈ fl.take k, bigB f = false)) (fun i => fl.length - (intOf i).toNat)
  case atStart => exact ⟨0, Nat.zero_le _, rfl, Lib.hid (by simp)⟩
  case round =>
    obtain ⟨k, hk, rfl, HB⟩ := hrel
    obtain ⟨mr, fv, F, lr, hwr, nr, rr, nw, hF⟩ := HI.out
    by_cases hlt : k < fl.length
    · obtain ⟨fb, fo, cap, hfa, hc⟩ := WindK.cells HF.out (by omega)
      simp only [Value.slice.injEq] at hfa
      obtain ⟨rfl, _, rfl⟩ := hfa
      obtain ⟨_, g1'⟩ := fileCells_get fl k hlt
      have e1 := (hc.le lr).at hwr _ _ g1'
      have hadd : ∀ j, (⟨fb, fo, none⟩ : Addr).add j = ⟨fb, fo + j, none⟩ := fun j => by unfold Addr.add; split <;> simp_all
      rw [hadd] at e1
      rw [← Nat.add_assoc] at e1
      have flt : fb < w3.heap.size := by
        obtain ⟨c, e, fz, h1, _⟩ := hc
        exact hwr.lt (lr _ _ h1)
      obtain ⟨⟨nm, by'⟩, hfk⟩ : ∃ f, f = fl[k] := ⟨_, rfl⟩
      rw [← hfk] at e1
      have HFK := Lib.hid hfk
      have LR := Lib.hid lr
      have HWR := Lib.hid hwr
      have NR := Lib.hid nr
      clear hfk g1' hc hadd lr hwr nr rr nw hF
      cases hb : bigB (nm, by') with
      | true =>
        have hb' : 262144 < (by'.size : Int) := by unfold bigB at hb; simpa using hb
        have HBB := Lib.hid hb
        clear hb
        go_wp2_with fail
        refine bodyPost_ret (v := .tuple #[.pointer none, .int .i64 2]) (by simp [results, Tryz.results19, go_sem]) rfl ?_
        have hE := newE_big (nf := xl.length) (List.getElem_mem hlt) (by rw [← HFK.out]; exact HBB.out)
        exact Post.mk (R := NewRR m fl xl) mr LR.out HWR.out NR.out ⟨fun h => (by rw [hE] at h; cases h), fun _ => by rw [hE]⟩
      | false =>
        have hb' : ¬ 262144 < (by'.size : Int) := by unfold bigB at hb; simp at hb; omega
        have HBB := Lib.hid hb
        clear hb
        go_wp2_with fail
        go_round
        case rel => exact ⟨k + 1, hlt, by go_num, Lib.hid (mem_take_succ hlt HB.out (by rw [← HFK.out]; exact HBB.out))⟩
        case measure => simp [intOf]; omega
    · have HSZ : Hid (sizeE (newE1 fl xl.length) fl = 0) := Lib.hid (by
        have h := HB.out
        rw [List.take_of_length_le (by omega)] at h
        rw [HE1.out]
        unfold sizeE
        rw [if_neg]
        simp only [List.any_eq_true]
        rintro ⟨f, hf, hb⟩
        rw [h f hf] at hb; cases hb)
      have HNB : Hid (∀ f ∈ fl, bigB f = false) := Lib.hid (by
        have h := HB.out
        rwa [List.take_of_length_le (by omega)] at h)
      clear HB lr hwr nr rr nw hF
      go_wp2_with fail
      go_loopw [8] (fun i wr => ∃ k : Nat, k ≤ fl.length ∧ i = .int .i64 k ∧ Hid (RI w m rb fl ov k wr) ∧ Hid (∀ f ∈ fl.take k, isNameB f.1 = true) ∧ Hid (((fl.take k).map Prod.fst).Nodup)) (fun i _ => fl.length - (intOf i).toNat)
      case atStart => exact ⟨0, Nat.zero_le _, rfl, HI, Lib.hid (by simp), Lib.hid (by simp)⟩
      case round =>
        clear HI
        obtain ⟨k, hk, rfl, HI, HNM, HND⟩ := hrel
        obtain ⟨mr, fv, F, lr, hwr, nr, rr, nw, hF⟩ := HI.out
        by_cases hlt : k < fl.length
        · obtain ⟨fb, fo, cap, hfa, hc⟩ := WindK.cells HF.out (by omega)
          simp only [Value.slice.injEq] at hfa
          obtain ⟨rfl, _, rfl⟩ := hfa
          obtain ⟨g0, g1'⟩ := fileCells_get fl k hlt
          have hcw := (hc.le lr).at hwr
          have e0 := hcw _ _ g0
          have e1 := hcw _ _ g1'
          have hadd : ∀ j, (⟨fb, fo, none⟩ : Addr).add j = ⟨fb, fo + j, none⟩ := fun j => by unfold Addr.add; split <;> simp_all
          rw [hadd] at e0 e1
          rw [← Nat.add_assoc] at e1
          have flt : fb < wr.heap.size := by
            obtain ⟨c, e, fz, h1, _⟩ := hc
            exact hwr.lt (lr _ _ h1)
          have bsz := HBS.out _ (List.getElem_mem hlt)
          have nbg := HNB.out _ (List.getElem_mem hlt)
          obtain ⟨⟨nm, by'⟩, hfk⟩ : ∃ f, f = fl[k] := ⟨_, rfl⟩
          rw [← hfk] at e0 e1 bsz nbg
          simp only at bsz
          have HFK := Lib.hid hfk
          have BSZ := Lib.hid bsz
          have NBG := Lib.hid nbg
          have hfr := hwr.fresh (Nat.le_refl wr.heap.size)
          have h4 := hwr.alloc (.cells #[.string nm, .string by'] 60)
          have l4 := Mem.le_set mr (.cells #[.string nm, .string by'] 60) hfr
          have RR := Lib.hid (rr.le l4)
          have NW := Lib.hid nw
          have HFF := Lib.hid hF
          have LR := Lib.hid (Mem.le_trans lr l4)
          have H4 := Lib.hid h4
          have N4 := Lib.hid (nr.alloc (.cells #[.string nm, .string by'] 60))
          have XB := Lib.hid (Mem.set_same mr wr.heap.size (.cells #[.string nm, .string by'] 60))
          clear hfk g0 g1' hcw hc hadd bsz nbg hfr h4 l4 rr nw hF lr hwr nr HI
          go_wp2_with fail
          refine (named_ref nm _).mono ?_
          rintro e wq ⟨rfl, rfl⟩
          cases hnm : isNameB nm with
          | false =>
            have HNN := Lib.hid hnm
            clear hnm
            go_wp2_with fail
            refine bodyPost_ret (v := .tuple #[.pointer none, .int .i64 1]) (by simp [results, Tryz.results19, go_sem]) rfl ?_
            have hE := newE_bad HSZ.out hlt (fun h => by rw [← HFK.out, HNN.out] at h; cases h.1)
            exact Post.mk (R := NewRR m fl xl) _ LR.out H4.out N4.out ⟨fun h => (by rw [hE] at h; cases h), fun _ => by rw [hE]⟩
          | true =>
            have HNN := Lib.hid hnm
            clear hnm
            go_wp2_with fail
            refine (find_any rb _ nm _ _ H4.out RR.out (Nat.zero_le _)).mono ?_
            rintro e wq ⟨nf, rfl, hfind, rfl⟩
            have HFI := Lib.hid hfind
            clear hfind
            by_cases h0 : 0 < (nf : Int)
            · go_wp2_with fail
              refine bodyPost_ret (v := .tuple #[.pointer none, .int .i64 1]) (by simp [results, Tryz.results19, go_sem]) rfl ?_
              have hE := newE_bad HSZ.out hlt (fun h => by
                rcases HFI.out with ⟨h1, _⟩ | ⟨h1, _, f, h2, h3⟩
                · omega
                · have h4 := congrArg (·[nf]?) HFF.out
                  simp only [List.getElem?_map] at h4
                  rw [h2] at h4
                  obtain ⟨j, rfl⟩ : ∃ j, nf = j + 1 := ⟨nf - 1, by omega⟩
                  rw [List.getElem?_cons_succ, List.getElem?_map] at h4
                  cases h5 : (fl.take k)[j]? with
                  | none => rw [h5] at h4; cases h4
                  | some y =>
                    rw [h5] at h4
                    simp only [Option.map_some, Option.some.injEq, Prod.mk.injEq] at h4
                    refine h.2 y (List.mem_of_getElem? h5) ?_
                    rw [← h4.1, h3, ← HFK.out])
              exact Post.mk (R := NewRR m fl xl) _ LR.out H4.out N4.out ⟨fun h => (by rw [hE] at h; cases h), fun _ => by rw [hE]⟩
            · go_wp2_with fail
              refine wp_opaque w _ H4.out N4.out ?_
              intro w5 h5 n5
              generalize wr.heap.size = xb at *
              generalize mr.set xb (.cells #[.string nm, .string by'] 60 (0, 0)) = m4 at *
              obtain ⟨vb, vcap, hfv, _⟩ := RR.out.at h5
              obtain rfl : fv = .slice (some ⟨vb, 0, none⟩) F.length vcap := hfv
              have RST := Lib.hid RR.out.store
              have c0 : w5.cell? ⟨rb, 0, none⟩ = some (.slice (some ⟨vb, 0, none⟩) F.length vcap) := by rw [h5.cell RST.out]; rfl
              have c1 : w5.cell? ⟨xb, 0, none⟩ = some (.string nm) := by rw [h5.cell XB.out]; rfl
              have c2 : w5.cell? ⟨xb, 1, none⟩ = some (.string by') := by rw [h5.cell XB.out]; rfl
              obtain ⟨ba, bc, w6, m6, hcv, n6, h6, l6, row6, own6⟩ := conv_any by' w5.drew m4 h5.drew BSZ.out
              have d0 : w6.cell? ⟨rb, 0, none⟩ = some (.slice (some ⟨vb, 0, none⟩) F.length vcap) := by rw [h6.cell (l6 _ _ RST.out)]; rfl
              have d1 : w6.cell? ⟨xb, 0, none⟩ = some (.string nm) := by rw [h6.cell (l6 _ _ XB.out)]; rfl
              have d2 : w6.cell? ⟨xb, 1, none⟩ = some (.string by') := by rw [h6.cell (l6 _ _ XB.out)]; rfl
              have dlt1 : rb < w6.heap.size := h6.lt (l6 _ _ RST.out)
              have dlt2 : xb < w6.heap.size := h6.lt (l6 _ _ XB.out)
              have h7 := h6.alloc (.cells #[.string nm, .slice ba by'.size bc] 100)
              have l7 := Mem.le_set m6 (.cells #[.string nm, .slice ba by'.size bc] 100) (h6.fresh (Nat.le_refl _))
              obtain ⟨i0, hi, hz0, hz1, hz2⟩ := info_parts infoRF
              have rr7 := RR.out.le (Mem.le_trans l6 l7)
              have hFl := RI.len hk HFF.out
              obtain ⟨v', w8, m8, hrun, n8, h8, row8, gr8⟩ := run_append_row (P := Tryz.prog) 55 55 100 i0 _ 2 40 Tryz.underlying55 hi hz0 hz1 hz2 rfl (by decide)
                h7 (.slice (some ⟨vb, 0, none⟩) F.length vcap) F.length (F.flatMap rfCells) rr7.files _ 0 1 1 [.string nm, .slice ba by'.size bc] rfl (Cells.whole (Mem.set_same _ _ _) rfl) (by simp [Value.oneCell']) (by decide) (by omega) (by omega)
              obtain ⟨va, vc, rfl, _⟩ := row8.lenV
              have rb8 := gr8.keep rr7.store (rr7.files.notOwn (e' := 58) rr7.store (by decide))
              have xb8 := gr8.keep (l7 _ _ (l6 _ _ XB.out)) (rr7.files.notOwn (e' := 60) (l7 _ _ (l6 _ _ XB.out)) (by decide))
              have f0 : w8.cell? ⟨rb, 0, none⟩ = some (.slice (some ⟨vb, 0, none⟩) F.length vcap) := by rw [h8.cell rb8]; rfl
              have f1 : w8.cell? ⟨xb, 0, none⟩ = some (.string nm) := by rw [h8.cell xb8]; rfl
              have f2 : w8.cell? ⟨xb, 1, none⟩ = some (.string by') := by rw [h8.cell xb8]; rfl
              have f3 : w8.frozen? ⟨rb, 0, none⟩ = false := h8.froz rb8
              have h9 := h8.storeTo (off := 0) (c' := #[.slice va (F.length + 1) vc, ov, .slice none 0 0, .int .i64 0, .int .i64 0, .int .i64 0, .int .i64 0]) rb8 (.slice va (F.length + 1) vc) (by simp)
              have hne : nm ≠ ⟨#[]⟩ := fun h => by have := HNN.out; rw [h] at this; revert this; rw [isNameB_eq]; decide
              have bl : by'.data.toList.length = by'.size := Array.length_toList
              have fne : ∀ d ∈ F, d.name ≠ nm := fun d hd he => by
                obtain ⟨j, hj, rfl⟩ := List.getElem_of_mem hd
                rcases HFI.out with ⟨_, h1⟩ | ⟨h1, _⟩
                · rcases Nat.eq_zero_or_pos j with rfl | hp
                  · obtain ⟨f, F', hF, hf⟩ := RR.out.head
                    simp only at hF
                    subst hF
                    exact hne (he.symm.trans hf)
                  · exact h1 j _ hp (List.getElem?_eq_getElem hj) ⟨he, hne⟩
                · omega
              have FNE := Lib.hid fne
              have r9 := rr7.push ⟨nm, .slice ba by'.size bc, by'.data.toList⟩ (.slice va (F.length + 1) vc) gr8 row8 (by show Row _ _ _ _ by'.data.toList.length _; rw [bl]; exact row6.le l7)
                (fun d hd b h1 h2 => by
                  obtain ⟨_, _, hc⟩ := (RR.out.bytes d hd).ty h1
                  rw [own6 b h2] at hc; cases hc) hne HNN.out
                fne
                (by show by'.data.toList.length ≤ _; rw [bl]; have := NBG.out; unfold bigB at this; simp at this; omega) (by show F.length + 1 ≤ 101 + 0; omega)
              have NW9 : Hid (∀ b, RFP rb ⟨.slice va (F.length + 1) vc, F ++ [⟨nm, .slice ba by'.size bc, by'.data.toList⟩], ov, List.replicate 33 ⟨0, 0, 0⟩, .slice none 0 0, [], 0, (0, 0, 0)⟩ b → m b = none) := Lib.hid (fun b hb => by
                rcases RFP_push (r := ⟨.slice (some ⟨vb, 0, none⟩) F.length vcap, F, ov, List.replicate 33 ⟨0, 0, 0⟩, .slice none 0 0, [], 0, (0, 0, 0)⟩) gr8 hb with h1 | h1 | h1
                · exact NW.out b h1
                · exact Mem.none_le LR.out (Mem.none_le l6 (Mem.none_le l7 h1))
                · exact Mem.none_le LR.out (own6 b h1))
              have lm : m.le (m8.set rb (rstoreObj ⟨.slice va (F.length + 1) vc, F ++ [⟨nm, .slice ba by'.size bc, by'.data.toList⟩], ov, List.replicate 33 ⟨0, 0, 0⟩, .slice none 0 0, [], 0, (0, 0, 0)⟩)) := fun b o hb => by
                rw [Mem.set_ne _ _ (fun e => by have := NW.out b (.inl e); rw [hb] at this; cases this)]
                exact gr8.keep (l7 _ _ (l6 _ _ (LR.out _ _ hb))) (fun e => by have := NW.out b (.inr (.inl e)); rw [hb] at this; cases this)
              have R9 := Lib.hid r9
              have LM := Lib.hid lm
              have H9 := Lib.hid h9
              have N9 := Lib.hid (((n5.drew.trans n6).alloc (.cells #[.string nm, .slice ba by'.size bc] 100)).trans n8)
              clear h5 n5 n6 h6 l6 row6 own6 h7 l7 hi hz0 hz1 hz2 rr7 n8 h8 row8 gr8 rb8 xb8 h9 r9 lm hne hFl fne
              refine wp_region_K 15 (fun w' => w'.cell? ⟨rb, 0, none⟩ = some (.slice (some ⟨vb, 0, none⟩) F.length vcap) ∧ w'.cell? ⟨xb, 0, none⟩ = some (.string nm) ∧ w'.cell? ⟨xb, 1, none⟩ = some (.string by')) (by kernel_rfl) ?_
              have hS : (fun w' : World => w'.cell? ⟨rb, 0, none⟩ = some (.slice (some ⟨vb, 0, none⟩) F.length vcap) ∧ w'.cell? ⟨xb, 0, none⟩ = some (.string nm) ∧ w'.cell? ⟨xb, 1, none⟩ = some (.string by')) w5.drew := ⟨c0, c1, c2⟩
              refine wpAnyK_take (i := 0) (v := ?_) rfl (by kernel_rfl) (by kernel_rfl) (by kernel_rfl) (by kernel_rfl) (fun _ _ _ h => h) (Or.inl ⟨by rfl, ?_⟩) hS ?_
              rotate_left
              · intro w0 hS0; obtain ⟨q0, q1, q2⟩ := hS0; go_simp; try with_reducible rfl
              simp only [Act.put, List.setIfInBounds_toArray, List.set_cons_zero, List.set_cons_succ, List.getElem_toArray, List.getElem_cons_succ, List.getElem_cons_zero]
              refine wpAnyK_take (i := 1) (v := ?_) rfl (by kernel_rfl) (by kernel_rfl) (by kernel_rfl) (by kernel_rfl) (fun _ _ _ h => h) (Or.inl ⟨by rfl, ?_⟩) hS ?_
              rotate_left
              · intro w0 hS0; obtain ⟨q0, q1, q2⟩ := hS0; go_simp; try with_reducible rfl
              simp only [Act.put, List.setIfInBounds_toArray, List.set_cons_zero, List.set_cons_succ, List.getElem_toArray, List.getElem_cons_succ, List.getElem_cons_zero]
              refine wpAnyK_take (i := 2) (v := ?_) rfl (by kernel_rfl) (by kernel_rfl) (by kernel_rfl) (by kernel_rfl) (fun _ _ _ h => h) (Or.inl ⟨by rfl, ?_⟩) hS ?_
              rotate_left
              · intro w0 hS0; obtain ⟨q0, q1, q2⟩ := hS0; go_simp; try with_reducible rfl
              simp only [Act.put, List.setIfInBounds_toArray, List.set_cons_zero, List.set_cons_succ, List.getElem_toArray, List.getElem_cons_succ, List.getElem_cons_zero]
              refine wpAnyK_take (i := 3) (v := ?_) rfl (by kernel_rfl) (by kernel_rfl) (by kernel_rfl) (by kernel_rfl) (fun _ _ _ h => h) (Or.inl ⟨by rfl, ?_⟩) hS ?_
              rotate_left
              · intro w0 hS0; obtain ⟨q0, q1, q2⟩ := hS0; go_simp; try with_reducible rfl
              simp only [Act.put, List.setIfInBounds_toArray, List.set_cons_zero, List.set_cons_succ, List.getElem_toArray, List.getElem_cons_succ, List.getElem_cons_zero]
              refine wpAnyK_take (i := 4) (v := ?_) rfl (by kernel_rfl) (by kernel_rfl) (by kernel_rfl) (by kernel_rfl) (fun _ _ _ h => h) (Or.inl ⟨by rfl, ?_⟩) hS ?_
              rotate_left
              · intro w0 hS0; obtain ⟨q0, q1, q2⟩ := hS0; go_simp; try with_reducible rfl
              simp only [Act.put, List.setIfInBounds_toArray, List.set_cons_zero, List.set_cons_succ, List.getElem_toArray, List.getElem_cons_succ, List.getElem_cons_zero]
              refine wpAnyK_take (i := 5) (v := ?_) rfl (by kernel_rfl) (by kernel_rfl) (by kernel_rfl) (by kernel_rfl) (fun _ _ _ h => h) (Or.inl ⟨by rfl, ?_⟩) hS ?_
              rotate_left
              · intro w0 hS0; obtain ⟨q0, q1, q2⟩ := hS0; go_simp; try with_reducible rfl
              simp only [Act.put, List.setIfInBounds_toArray, List.set_cons_zero, List.set_cons_succ, List.getElem_toArray, List.getElem_cons_succ, List.getElem_cons_zero]
              refine wpAnyK_take (i := 6) (v := ?_) rfl (by kernel_rfl) (by kernel_rfl) (by kernel_rfl) (by kernel_rfl) (fun _ _ _ h => h) (Or.inl ⟨by rfl, ?_⟩) hS ?_
              rotate_left
              · intro w0 hS0; obtain ⟨q0, q1, q2⟩ := hS0; go_simp; try with_reducible rfl
              simp only [Act.put, List.setIfInBounds_toArray, List.set_cons_zero, List.set_cons_succ, List.getElem_toArray, List.getElem_cons_succ, List.getElem_cons_zero]
              refine wpAnyK_take (i := 7) (v := ?_) rfl (by kernel_rfl) (by kernel_rfl) (by kernel_rfl) (by kernel_rfl) (fun _ _ _ h => h) (Or.inl ⟨by rfl, ?_⟩) hS ?_
              rotate_left
              · intro w0 hS0; obtain ⟨q0, q1, q2⟩ := hS0; go_simp; try with_reducible rfl
              simp only [Act.put, List.setIfInBounds_toArray, List.set_cons_zero, List.set_cons_succ, List.getElem_toArray, List.getElem_cons_succ, List.getElem_cons_zero]
              refine wpAnyK_take (i := 8) (v := ?_) rfl (by kernel_rfl) (by kernel_rfl) (by kernel_rfl) (by kernel_rfl) (fun _ _ _ h => h) (Or.inl ⟨by rfl, ?_⟩) hS ?_
              rotate_left
              · intro w0 hS0; obtain ⟨q0, q1, q2⟩ := hS0; go_simp; try with_reducible rfl
              simp only [Act.put, List.setIfInBounds_toArray, List.set_cons_zero, List.set_cons_succ, List.getElem_toArray, List.getElem_cons_succ, List.getElem_cons_zero]
              clear hS c0 c1 c2
              refine wpAnyK_one (i := 9) rfl (by kernel_rfl) rfl ?_
              go_simp
              refine wpAnyK_one (i := 10) rfl (by kernel_rfl) rfl ?_
              go_simp
              refine wpAnyK_one (i := 11) rfl (by kernel_rfl) rfl ?_
              go_simp
              refine wpAnyK_one (i := 12) rfl (by kernel_rfl) rfl ?_
              refine wp_b2 (vs := .slice (some ⟨vb, 0, none⟩) F.length vcap) (vx := .slice (some ⟨w6.heap.size, 0, none⟩) 1 1) (v' := .slice va (F.length + 1) vc) (w' := w8) .append Builtin.append_ (fun _ _ _ _ => rfl) (.tmp 61) (.tmp 68) 55 55 ?_ ?_ ?_ ?_ ?_
              · rfl
              · rfl
              · rfl
              · exact hrun
              refine ⟨fun _ => ⟨f0, f1, f2⟩, ?_⟩
              refine wpAnyK_one (i := 13) rfl (by kernel_rfl) rfl ?_
              go_simp
              refine wpAnyK_one (i := 14) rfl (by kernel_rfl) rfl ?_
              go_simp
              refine wpAnyK_one (i := 15) rfl (by kernel_rfl) rfl ?_
              go_simp
              refine wpAnyK_done (by kernel_rfl) ?_ _
              go_wp2_with fail
              go_roundw
              case rel =>
                refine ⟨k + 1, hlt, by go_num, Lib.hid ⟨_, _, _, LM.out, H9.out, N9.out.setCell _ _, R9.out, NW9.out, ?_⟩, Lib.hid (mem_take_succ hlt HNM.out (by rw [← HFK.out]; exact HNN.out)), Lib.hid ?_⟩
                · rw [List.map_append, HFF.out, List.take_succ_eq_append_getElem hlt, List.map_append, ← HFK.out]; rfl
                · rw [List.take_succ_eq_append_getElem hlt, List.map_append, List.nodup_append]
                  refine ⟨HND.out, by simp, fun a ha b hb he => ?_⟩
                  have hb' : b = nm := by rw [← HFK.out] at hb; simpa using hb
                  obtain ⟨y, hy, rfl⟩ := List.mem_map.1 ha
                  obtain ⟨j, hj, rfl⟩ := List.getElem_of_mem hy
                  have h4 := congrArg (·[j + 1]?) HFF.out
                  simp only [List.getElem?_map, List.getElem?_cons_succ, List.getElem?_eq_getElem hj, Option.map_some] at h4
                  cases h5 : F[j + 1]? with
                  | none => rw [h5] at h4; cases h4
                  | some d =>
                    rw [h5] at h4
                    simp only [Option.map_some, Option.some.injEq, Prod.mk.injEq] at h4
                    exact FNE.out d (List.mem_of_getElem? h5) (h4.1.trans (he.trans hb'))
              case measure => simp [intOf]; omega
        · obtain rfl : k = fl.length := by omega
          have hE := newE_good HSZ.out (by have := HND.out; rwa [List.take_length] at this) (by have := HNM.out; rwa [List.take_length] at this)
          have hff := hF
          rw [List.take_length] at hff
          have HE := Lib.hid hE
          have HFF := Lib.hid hff
          obtain ⟨i0, hi, hz0, hz1, hz2⟩ := info_parts infoFail
          have c2 : wr.cell? ⟨rb, 2, none⟩ = some (.slice none 0 0) := by rw [hwr.cell rr.store]; rfl
          obtain ⟨v', w8, m8, hrun, n8, h8, row8, gr8⟩ := run_append_win 48 48 47 i0 _ 3 24 Tryz.underlying48 hi hz0 hz1 hz2 rfl (by decide)
            hwr (.slice none 0 0) 0 [] (Row.nil _ _ _) (.slice xa xl.length xc) xl.length (xl.flatMap failCells) (HX.out.le lr) (failCells_length xl)
            (fun u hu => by
              obtain ⟨f, _, hf⟩ := List.mem_flatMap.1 hu
              simp only [failCells, List.mem_cons, List.not_mem_nil, or_false] at hf
              rcases hf with rfl | rfl | rfl <;> rfl) (by omega) (by omega)
          rw [Nat.zero_add, List.nil_append] at row8
          obtain ⟨va, vc, rfl, _⟩ := row8.lenV
          have l8 : mr.le m8 := fun b o hb => gr8.keep hb (fun h => by cases h)
          have rr8 := rr.le l8
          have f2 : w8.cell? ⟨rb, 2, none⟩ = some (.slice none 0 0) := by rw [h8.cell rr8.store]; rfl
          have f3 : w8.frozen? ⟨rb, 2, none⟩ = false := h8.froz rr8.store
          have row8' : Fails m8 (.slice va xl.length vc) xl := row8
          have r9 := rr8.restore (.slice va xl.length vc) xl 0 (0, 0, 0) row8' (by omega) (Nat.le_refl _)
          have h9 := h8.storeTo (off := 2) (c' := #[fv, ov, .slice va xl.length vc, .int .i64 0, .int .i64 0, .int .i64 0, .int .i64 0]) rr8.store (.slice va xl.length vc) (by simp)
          have nw9 : ∀ b, RFP rb ⟨fv, F, ov, List.replicate 33 ⟨0, 0, 0⟩, .slice va xl.length vc, xl, 0, (0, 0, 0)⟩ b → m b = none := by
            rintro b (h | h | h | h | h)
            · exact nw b (.inl h)
            · exact nw b (.inr (.inl h))
            · exact nw b (.inr (.inr (.inl h)))
            · rcases gr8 with ⟨_, h3⟩ | ⟨gb, o, h3, _, h4⟩
              · rw [show (Value.slice va xl.length vc).ownBlock = some b from h] at h3; cases h3
              · rw [show (Value.slice va xl.length vc).ownBlock = some b from h] at h3
                obtain rfl := Option.some.inj h3
                rcases h4 with h4 | h4
                · cases h4
                · exact Mem.none_le lr h4
            · exact nw b (.inr (.inr (.inr (.inr h))))
          have lm : m.le (m8.set rb (rstoreObj ⟨fv, F, ov, List.replicate 33 ⟨0, 0, 0⟩, .slice va xl.length vc, xl, 0, (0, 0, 0)⟩)) := fun b o hb => by
            rw [Mem.set_ne _ _ (fun e => by have := nw b (.inl e); rw [hb] at this; cases this)]
            exact l8 _ _ (lr _ _ hb)
          have LM := Lib.hid lm
          have R9 := Lib.hid r9
          have NW9 := Lib.hid nw9
          have H9 := Lib.hid h9
          have N9 := Lib.hid (nr.trans n8)
          clear lm r9 nw9 h9 nr n8 row8' rr8 l8 row8 gr8 h8 hi hz0 hz1 hz2 lr hwr rr nw hF HI hff hE
          go_wp2_with (at_builtin; refine wpList_b2 rfl .append Builtin.append_ (fun _ _ _ _ => rfl) _ _ _ _ rfl rfl rfl hrun ?_)
          refine bodyPost_ret (v := .tuple #[.pointer (some ⟨rb, 0, none⟩), .int .i64 0]) (by simp [results, Tryz.results19, go_sem]) rfl ?_
          exact Post.mk (R := NewRR m fl xl) _ LM.out H9.out (N9.out.setCell _ _) ⟨fun _ => ⟨rb, _, rfl, R9.out, NW9.out, HFF.out, rfl, rfl, rfl⟩, fun h => absurd HE.out h⟩
end Go.Proofs.YtcdmdkgiabfbeaaGreatDoor

/-
  all: two lists of files that are the same.
-/
namespace Go.Proofs.YtcdmdkgiabfbeaaGreatDoor
open Go.RowKit

theorem file_cells {m : Mem} {v : Value} {fl : List File2} {w : World} (h : Row m v 60 2 fl.length (fl.flatMap fileCells)) (hm : Has w m) (hp : 0 < fl.length) : ∃ fb cap, v = .slice (some ⟨fb, 0, none⟩) fl.length cap ∧
    ∀ k (hk : k < fl.length), w.cell? ⟨fb, k * 2, none⟩ = some (.string fl[k].1) ∧ w.cell? ⟨fb, k * 2 + 1, none⟩ = some (.string fl[k].2) := by
  obtain ⟨_, ⟨_, h0⟩ | ⟨fb, cap, cur, fz, hv, hg, _, hn, hc, hcs, ht⟩⟩ := h
  · omega
  · refine ⟨fb, cap, hv, fun k hk => ?_⟩
    obtain ⟨g0, g1⟩ := fileCells_get fl k hk
    have key : ∀ j v, j < fl.length * 2 → (fl.flatMap fileCells)[j]? = some v → w.cell? ⟨fb, j, none⟩ = some v := fun j v hj hv => by
      rw [hm.cell hg, ← hv, ← ht, List.getElem?_take, if_pos hj]; simp
    exact ⟨key _ _ (by omega) g0, key _ _ (by omega) g1⟩

set_option maxHeartbeats 1000000 in
theorem all_same (v u : Value) (fl : List File2) (w : World) (m : Mem) (hm : Has w m) (h1 : Row m v 60 2 fl.length (fl.flatMap fileCells)) (h2 : Row m u 60 2 fl.length (fl.flatMap fileCells)) (hl : fl.length ≤ 1000000) :
    Calls Tryz.prog 21 #[v, u] w (Post w m fun v _ => v = .bool true) := by
  obtain ⟨va, vc, rfl, _⟩ := h1.lenV
  obtain ⟨ua, uc, rfl, _⟩ := h2.lenV
  have H := Lib.hid hm
  have H1 := Lib.hid h1
  have H2 := Lib.hid h2
  clear hm h1 h2
  go_enter Tryz.func21, Tryz.ntmps21
  go_wp2_with fail
  go_loopw [5] (fun i wr => ∃ k : Nat, k ≤ fl.length ∧ i = .int .i64 k ∧ Hid (Has wr m) ∧ Hid (Env w wr)) (fun i _ => fl.length - (intOf i).toNat)
  case atStart => exact ⟨0, Nat.zero_le _, rfl, H, Lib.hid (Env.refl _)⟩
  case round =>
    obtain ⟨k, hk, rfl, HW, HE⟩ := hrel
    by_cases hlt : k < fl.length
    · obtain ⟨fb, cap, hv, hc⟩ := file_cells H1.out HW.out (by omega)
      obtain ⟨gb, cap', hu, hd⟩ := file_cells H2.out HW.out (by omega)
      simp only [Value.slice.injEq] at hv hu
      obtain ⟨rfl, _, rfl⟩ := hv
      obtain ⟨rfl, _, rfl⟩ := hu
      obtain ⟨e0, e1⟩ := hc k hlt
      obtain ⟨g0, g1⟩ := hd k hlt
      obtain ⟨⟨nm, by'⟩, hfk⟩ : ∃ f, fl[k] = f := ⟨_, rfl⟩
      rw [hfk] at e0 e1 g0 g1
      simp only at e0 e1 g0 g1
      have flt : fb < wr.heap.size := by
        unfold World.cell? at e0
        cases ho : wr.heap[fb]? with
        | none => rw [ho] at e0; cases e0
        | some o => exact (Array.getElem?_eq_some_iff.1 ho).1
      have glt : gb < wr.heap.size := by
        unfold World.cell? at g0
        cases ho : wr.heap[gb]? with
        | none => rw [ho] at g0; cases g0
        | some o => exact (Array.getElem?_eq_some_iff.1 ho).1
      clear hc hd hfk
      go_wp2_with fail
      go_quiet (fail)
      go_wp2_with fail
      go_roundw
      case rel => exact ⟨k + 1, hlt, by go_num, Lib.hid (HW.out.drewN nq), Lib.hid (HE.out.drewN nq)⟩
      case measure => simp [intOf]; omega
    · go_wp2_with fail
      go_ret
      exact Post.mk m (Mem.le_refl _) HW.out HE.out rfl
end Go.Proofs.YtcdmdkgiabfbeaaGreatDoor
