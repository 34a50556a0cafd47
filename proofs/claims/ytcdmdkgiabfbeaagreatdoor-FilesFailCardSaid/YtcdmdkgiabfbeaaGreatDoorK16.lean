/-
  The document's Files.
-/
import Derived.Test.YtcdmdkgiabfbeaaGreatDoorK15
namespace Go.Proofs.YtcdmdkgiabfbeaaGreatDoor
open Go.RowKit

def leF (a b : File2) : Prop := a.1.data.toList ≤ b.1.data.toList
def ents (l : List RF) : List File2 := (l.filter fun f => decide (f.name ≠ ⟨#[]⟩)).map fun f => (f.name, ⟨f.bs.toArray⟩)
def bub (ol : List File2) (f : File2) (j : Nat) : List File2 := ol.take j ++ f :: ol.drop j

theorem bub_len {ol : List File2} {f : File2} {j : Nat} (hj : j ≤ ol.length) : (bub ol f j).length = ol.length + 1 := by simp [bub]; omega
theorem bub_end (ol : List File2) (f : File2) : bub ol f ol.length = ol ++ [f] := by simp [bub]
theorem bub_at {ol : List File2} {f : File2} {j : Nat} (hj : j ≤ ol.length) : (bub ol f j)[j]? = some f := by
  unfold bub
  rw [List.getElem?_append_right (by simp; omega)]
  simp [Nat.min_eq_left hj]
theorem bub_pre {ol : List File2} {f : File2} {j : Nat} (hj : j < ol.length) : (bub ol f (j + 1))[j]? = some ol[j] := by
  unfold bub
  rw [List.getElem?_append_left (by simp; omega), List.getElem?_take, if_pos (by omega), List.getElem?_eq_getElem hj]
theorem bub_perm (ol : List File2) (f : File2) (j : Nat) : (bub ol f j).Perm (ol ++ [f]) := by
  unfold bub
  refine List.perm_middle.trans ?_
  rw [List.take_append_drop]
  exact (List.perm_append_singleton f ol).symm
theorem bub_step {ol : List File2} {f : File2} {j : Nat} (hj : j < ol.length) : ((bub ol f (j + 1)).set (j + 1) ol[j]).set j f = bub ol f j := by
  apply List.ext_getElem?
  intro i
  have hl := bub_len (f := f) (show j + 1 ≤ ol.length by omega)
  rw [List.getElem?_set, List.getElem?_set]
  unfold bub
  have t1 : (ol.take (j + 1)).length = j + 1 := by simp; omega
  have t2 : (ol.take j).length = j := by simp; omega
  unfold bub at hl
  by_cases h1 : j = i
  · subst h1
    rw [if_pos rfl, if_pos (by rw [List.length_set]; omega), List.getElem?_append_right (by omega), t2]; simp
  · rw [if_neg h1]
    by_cases h2 : j + 1 = i
    · subst h2
      rw [if_pos rfl, if_pos (by omega), List.getElem?_append_right (l₁ := ol.take j) (by omega), t2, show j + 1 - j = 1 from by omega, List.getElem?_cons_succ, List.getElem?_drop, Nat.add_zero, List.getElem?_eq_getElem hj]
    · rw [if_neg h2]
      rcases Nat.lt_or_ge i j with h | h
      · rw [List.getElem?_append_left (l₁ := ol.take (j + 1)) (by omega), List.getElem?_append_left (l₁ := ol.take j) (by omega), List.getElem?_take, List.getElem?_take, if_pos (by omega), if_pos h]
      · rw [List.getElem?_append_right (l₁ := ol.take (j + 1)) (by omega), List.getElem?_append_right (l₁ := ol.take j) (by omega), t1, t2]
        obtain ⟨q, rfl⟩ : ∃ q, i = j + 2 + q := ⟨i - (j + 2), by omega⟩
        rw [show j + 2 + q - (j + 1) = q + 1 from by omega, show j + 2 + q - j = q + 2 from by omega, List.getElem?_cons_succ, List.getElem?_cons_succ, List.getElem?_drop, List.getElem?_drop]
        congr 1; omega

theorem leF_trans {a b c : File2} (h1 : leF a b) (h2 : leF b c) : leF a c := List.le_trans h1 h2

theorem bub_sorted {ol : List File2} {f : File2} {j : Nat} (h : ol.Pairwise leF) (hlo : ∀ y ∈ ol.drop j, leF f y) (hhi : ∀ y ∈ ol.take j, leF y f) : (bub ol f j).Pairwise leF := by
  unfold bub
  have h' : (ol.take j ++ ol.drop j).Pairwise leF := by rw [List.take_append_drop]; exact h
  obtain ⟨h1, h2, h3⟩ := List.pairwise_append.1 h'
  refine List.pairwise_append.2 ⟨h1, List.pairwise_cons.2 ⟨hlo, h2⟩, fun y hy z hz => ?_⟩
  rcases List.mem_cons.1 hz with rfl | hz
  · exact hhi y hy
  · exact h3 y hy z hz

theorem take_hi {ol : List File2} {f : File2} {q : Nat} (h : ol.Pairwise leF) (hq : q < ol.length) (hf : leF ol[q] f) : ∀ y ∈ ol.take (q + 1), leF y f := fun y hy => by
  rw [List.take_succ_eq_append_getElem hq] at hy
  rcases List.mem_append.1 hy with hy | hy
  · have h' : (ol.take q ++ ol.drop q).Pairwise leF := by rw [List.take_append_drop]; exact h
    refine leF_trans ((List.pairwise_append.1 h').2.2 y hy ol[q] ?_) hf
    rw [List.drop_eq_getElem_cons hq]; exact List.mem_cons_self ..
  · rw [List.mem_singleton.1 hy]; exact hf

theorem leF_of_less {a b : File2} (h : Op.bytesLess a.1.toList b.1.toList = true) : leF a b := by
  rw [bytesLess_eq, ByteArray.toList_eq, ByteArray.toList_eq] at h
  exact List.le_of_lt (of_decide_eq_true h)
theorem leF_of_not {a b : File2} (h : Op.bytesLess a.1.toList b.1.toList = false) : leF b a := by
  rw [bytesLess_eq, ByteArray.toList_eq, ByteArray.toList_eq] at h
  exact List.not_lt.1 (of_decide_eq_false h)

theorem ents_snoc {F : List RF} {k : Nat} (hk : k < F.length) : ents (F.take (k + 1)) = ents (F.take k) ++ if F[k].name = ⟨#[]⟩ then [] else [(F[k].name, ⟨F[k].bs.toArray⟩)] := by
  unfold ents
  rw [List.take_succ_eq_append_getElem hk, List.filter_append, List.map_append]
  congr 1
  by_cases h : F[k].name = ⟨#[]⟩
  · simp [h]
  · simp [h]

theorem fc_get (l : List File2) {i : Nat} (h : i < l.length * 2) : (l.flatMap fileCells)[i]? = (fileCells (l[i / 2]'(by omega)))[i % 2]? := by
  obtain ⟨g0, g1⟩ := fileCells_get l (i / 2) (by omega)
  rcases Nat.mod_two_eq_zero_or_one i with h2 | h2
  · rw [show i / 2 * 2 = i from by omega] at g0
    rw [g0, h2]; rfl
  · rw [show i / 2 * 2 + 1 = i from by omega] at g1
    rw [g1, h2]; rfl

theorem RRep.at' {m : Mem} {rb : Nat} {r : RG} {w : World} {fb cap : Nat} (h : RRep m rb r) (hm : Has w m) (hfv : r.fv = .slice (some ⟨fb, 0, none⟩) r.F.length cap) :
    w.cell? ⟨rb, 0, none⟩ = some (.slice (some ⟨fb, 0, none⟩) r.F.length cap) ∧ fb < w.heap.size ∧ ∀ k (hk : k < r.F.length), w.cell? ⟨fb, k * 2, none⟩ = some (.string r.F[k].name) ∧ w.cell? ⟨fb, k * 2 + 1, none⟩ = some r.F[k].bv := by
  obtain ⟨fb', cap', hfv', hat⟩ := h.at hm
  have he : fb' = fb := by rw [hfv] at hfv'; simp only [Value.slice.injEq, Option.some.injEq, Addr.mk.injEq] at hfv'; exact hfv'.1.1.symm
  subst he
  refine ⟨by rw [hm.cell h.store, ← hfv]; rfl, ?_, hat⟩
  obtain ⟨_, _, hx⟩ := h.files.ty (b := fb') (by rw [hfv]; rfl)
  exact hm.lt hx

/-- Two cells written anew in a row of files. -/
theorem Row.put2 {m : Mem} {gb n cap : Nat} {l : List File2} {w : World} (h : Row m (.slice (some ⟨gb, 0, none⟩) n cap) 60 2 l.length (l.flatMap fileCells)) (hm : Has w m) (j : Nat) (hj : j < l.length) (f : File2) :
    w.cell? ⟨gb, j * 2, none⟩ = some (.string l[j].1) ∧ w.cell? ⟨gb, j * 2 + 1, none⟩ = some (.string l[j].2) ∧ w.frozen? ⟨gb, j * 2, none⟩ = false ∧ w.frozen? ⟨gb, j * 2 + 1, none⟩ = false ∧
    ∃ o, Has (w.setCells gb (j * 2) (fileCells f)) (m.set gb o) ∧ Row (m.set gb o) (.slice (some ⟨gb, 0, none⟩) n cap) 60 2 l.length ((l.set j f).flatMap fileCells) := by
  obtain ⟨cap', cur, fz, hv, hg, hth, hnc, hcm, hcs, htk⟩ := h.own (b := gb) rfl
  have hn : n = l.length := by simp only [Value.slice.injEq] at hv; exact hv.2.1
  have hcc : cap = cap' := by simp only [Value.slice.injEq] at hv; exact hv.2.2
  have hci : ∀ i, i < l.length * 2 → cur[i]? = (l.flatMap fileCells)[i]? := fun i hi => by
    rw [← htk, List.getElem?_take, if_pos hi]; simp
  obtain ⟨g0, g1⟩ := fileCells_get l j hj
  refine ⟨by rw [hm.cell hg, hci _ (by omega)]; exact g0, by rw [hm.cell hg, hci _ (by omega)]; exact g1, by simp only [World.frozen?, hm _ _ hg]; exact hth _ (by omega), by simp only [World.frozen?, hm _ _ hg]; exact hth _ (by omega),
    _, Has.stores (fileCells f) cur (j * 2) _ _ hm hg, ?_⟩
  have hfit : j * 2 + (fileCells f).length ≤ cur.size := by simp only [fileCells, List.length_cons, List.length_nil]; omega
  refine ⟨by rw [fileCells_len, List.length_set], .inr ⟨gb, cap', _, fz, by rw [hn, hcc], Mem.set_same _ _ _, hth.size (splice_size _ _ _), hnc, hcm, by rw [splice_size]; exact hcs, ?_⟩⟩
  apply List.ext_getElem?
  intro i
  rw [List.getElem?_take]
  by_cases hi : i < l.length * 2
  · rw [if_pos hi]
    have hs : (splice cur (j * 2) (fileCells f)).toList[i]? = (splice cur (j * 2) (fileCells f))[i]? := by simp
    rw [hs, splice_get _ _ _ _ hfit, fc_get _ (by rw [List.length_set]; exact hi)]
    have hfc : (fileCells f).length = 2 := rfl
    by_cases h1 : j * 2 ≤ i ∧ i < j * 2 + (fileCells f).length
    · rw [if_pos h1]
      have h2 : i / 2 = j := by omega
      simp only [h2, List.getElem_set_self]
      rw [show i - j * 2 = i % 2 from by omega]
    · rw [if_neg h1, hci _ hi, fc_get _ hi]
      have h2 : j ≠ i / 2 := by omega
      simp only [List.getElem_set_ne h2]
  · rw [if_neg hi, List.getElem?_eq_none]
    rw [fileCells_len, List.length_set]; omega

set_option maxHeartbeats 8000000 in
set_option maxRecDepth 100000 in
theorem reffiles_any (rb : Nat) (r : RG) (w : World) (m : Mem) (hm : Has w m) (hr : RRep m rb r) (hn : r.n ≤ 9999) :
    Calls Tryz.prog 22 #[.pointer (some ⟨rb, 0, none⟩)] w (Post w m fun v m' => ∃ ol, FilesR m ol v m' ∧ ol.Perm (ents r.F) ∧ ol.Pairwise leF) := by
  have H := Lib.hid hm
  have HR := Lib.hid hr
  have hfl := hr.flen
  obtain ⟨fb, cap, hfv, _⟩ := hr.at hm
  have AT : Hid (∀ wx mx, m.le mx → Has wx mx → wx.cell? ⟨rb, 0, none⟩ = some (.slice (some ⟨fb, 0, none⟩) r.F.length cap) ∧ fb < wx.heap.size ∧ ∀ k (hk : k < r.F.length), wx.cell? ⟨fb, k * 2, none⟩ = some (.string r.F[k].name) ∧ wx.cell? ⟨fb, k * 2 + 1, none⟩ = some r.F[k].bv) :=
    Lib.hid (fun wx mx l h => (hr.le l).at' h hfv)
  clear hm hr hfv
  go_enter Tryz.func22, Tryz.ntmps22
  go_wp2_with fail
  go_loopw [3, 4] (fun v i wr => ∃ (k : Nat) (ol : List File2) (xa : Option Addr) (xc : Nat), 1 ≤ k ∧ k ≤ r.F.length ∧ i = .int .i64 k ∧ v = .slice xa ol.length xc ∧ Hid (∃ mr, m.le mr ∧ Has wr mr ∧ Env w wr ∧ FilesR m ol (.slice xa ol.length xc) mr) ∧ Hid (ol.Perm (ents (r.F.take k))) ∧ Hid (ol.Pairwise leF)) (fun _ i _ => r.F.length - (intOf i).toNat)
  case atStart =>
    obtain ⟨f, F', hF, hf⟩ := HR.out.head
    refine ⟨1, [], none, 0, Nat.le_refl _, by rw [hF]; simp, rfl, rfl, Lib.hid ⟨m, Mem.le_refl _, H.out, Env.refl _, Row.nil _ _ _, fun b hb => by cases hb⟩, Lib.hid ?_, Lib.hid (by simp)⟩
    rw [hF]
    simp [ents, hf]
  case round =>
    obtain ⟨k, ol, xa, xc, hk1, hk, rfl, rfl, HX, HP, HS⟩ := hrel
    obtain ⟨mr, lr, hwr, nr, row, own⟩ := HX.out
    have hr := HR.out.le lr
    obtain ⟨c0, flt, hat⟩ := AT.out wr mr lr hwr
    by_cases hlt : k < r.F.length
    · obtain ⟨e0, e1⟩ := hat k hlt
      obtain ⟨ba, bc, hbv, _⟩ := (hr.bytes _ (List.getElem_mem hlt)).lenV
      have CV : (convert 26 9 r.F[k].bv).run Tryz.prog wr.drew = .ok (.string ⟨r.F[k].bs.toArray⟩) wr.drew := conv_back (row_wind (hr.bytes _ (List.getElem_mem hlt))) wr.drew hwr.drew
      have hes := ents_snoc hlt
      rw [hbv] at e1 CV
      obtain ⟨nm, hnm⟩ : ∃ nm, r.F[k].name = nm := ⟨_, rfl⟩
      obtain ⟨bs, hbs⟩ : ∃ bs, r.F[k].bs = bs := ⟨_, rfl⟩
      rw [hnm, hbs] at hes
      rw [hnm] at e0
      rw [hbs] at e1 CV
      have HES := Lib.hid hes
      have HNM := Lib.hid hnm
      have HBS := Lib.hid hbs
      clear hes hnm hbs hbv
      by_cases hem : nm = ⟨#[]⟩
      · have hb : nm.toList = [] := by rw [hem, ByteArray.toList_eq]
        have hb2 : nm.toList.isEmpty = true := by rw [hb]; rfl
        have HEM := Lib.hid hem
        have HRO : Hid (FilesR m ol (.slice xa ol.length xc) mr) := ⟨row, own⟩
        have HWR := Lib.hid hwr
        have LR := Lib.hid lr
        have NR := Lib.hid nr
        clear hem row own hwr lr nr hat HX hr CV
        go_wp2_with fail
        go_roundw
        case rel =>
          refine ⟨k + 1, ol, xa, xc, by omega, hlt, by go_num, rfl, Lib.hid ⟨mr, LR.out, HWR.out, NR.out, HRO.out⟩, Lib.hid ?_, HS⟩
          rw [HES.out, if_pos HEM.out, List.append_nil]; exact HP.out
        case measure => simp [intOf]; omega
      · have hb : ¬ nm.toList = [] := fun h => hem (toList_inj (by rw [h, ByteArray.toList_eq]))
        have hb2 : nm.toList.isEmpty = false := by simpa using hb
        have HEM := Lib.hid hem
        have h7 := hwr.drew.alloc (.cells #[.string nm, .string ⟨bs.toArray⟩] 60)
        have l7 := Mem.le_set mr (.cells #[.string nm, .string ⟨bs.toArray⟩] 60) (hwr.drew.fresh (Nat.le_refl _))
        obtain ⟨i0, hi, hz0, hz1, hz2⟩ := info_parts infoFile
        have hol : ol.length ≤ r.F.length := by
          have h1 := HP.out.length_eq
          have h2 : (ents (r.F.take k)).length ≤ (r.F.take k).length := by unfold ents; rw [List.length_map]; exact List.length_filter_le _ _
          have h3 := List.length_take_le k r.F
          rw [List.length_take] at h2
          omega
        obtain ⟨v', w8, m8, hrun, n8, h8, row8, gr8⟩ := run_append_row (P := Tryz.prog) 40 40 60 i0 _ 2 32 Tryz.underlying40 hi hz0 hz1 hz2 rfl (by decide)
          h7 (.slice xa ol.length xc) ol.length (ol.flatMap fileCells) (row.le l7) wr.heap.size 0 1 1 [.string nm, .string ⟨bs.toArray⟩] rfl (Cells.whole (Mem.set_same _ _ _) rfl) (by simp [Value.oneCell']) (by decide) (by omega) (by omega)
        obtain ⟨va, vc, rfl, _⟩ := row8.lenV
        have lm8 : m.le m8 := fun b o hb => gr8.keep (l7 _ _ (lr _ _ hb)) (fun e => by have := own b e; rw [hb] at this; cases this)
        have own8 : ∀ b, (Value.slice va (ol.length + 1) vc).ownBlock = some b → m b = none := fun b hb => by
          rcases gr8 with ⟨_, h2⟩ | ⟨gb, o, h2, _, h4⟩
          · exact own b (by rw [← h2]; exact hb)
          · rw [hb] at h2
            obtain rfl := Option.some.inj h2
            rcases h4 with h4 | h4
            · exact own b h4
            · exact Mem.none_le lr (Mem.none_le l7 h4)
        obtain ⟨gb, rfl⟩ : ∃ gb, va = some ⟨gb, 0, none⟩ := by
          obtain ⟨_, ⟨h, h0⟩ | ⟨gg, cap, cur, fz, h, _⟩⟩ := row8
          · simp at h
          · simp only [Value.slice.injEq] at h; exact ⟨gg, h.1⟩
        obtain ⟨f0, flt8, hat8⟩ := AT.out w8 m8 lm8 h8
        obtain ⟨f1, f2⟩ := hat8 k hlt
        rw [HNM.out] at f1
        have hbv8 : r.F[k].bv = .slice ba bs.length bc := by
          have h1 := (hat k hlt).2
          rw [e1] at h1
          exact (Option.some.inj h1).symm
        rw [hbv8] at f2
        obtain ⟨a0, alt, hata⟩ := AT.out _ _ (Mem.le_trans lr l7) h7
        obtain ⟨a1, a2⟩ := hata k hlt
        rw [HNM.out] at a1
        rw [hbv8] at a2
        have HRW : Hid (∃ mx, m.le mx ∧ Has w8 mx ∧ Env w w8 ∧ Row mx (.slice (some ⟨gb, 0, none⟩) (ol.length + 1) vc) 60 2 (ol.length + 1) ((bub ol (nm, ⟨bs.toArray⟩) ol.length).flatMap fileCells)) := Lib.hid ⟨m8, lm8, h8, (nr.drew.alloc (.cells #[.string nm, .string ⟨bs.toArray⟩] 60)).trans n8, by
          rw [bub_end, List.flatMap_append]
          exact row8⟩
        have OWN := Lib.hid own8
        have HAT := Lib.hid hat
        clear hem h7 l7 hi hz0 hz1 hz2 n8 h8 row8 gr8 lm8 own8 hat8 hbv8 hata row own lr hwr nr hr HX hat
        go_wp2_with fail
        refine wp_region_K 22 (fun w' => w'.cell? ⟨rb, 0, none⟩ = some (.slice (some ⟨fb, 0, none⟩) r.F.length cap) ∧ w'.cell? ⟨fb, k * 2, none⟩ = some (.string nm) ∧ w'.cell? ⟨fb, k * 2 + 1, none⟩ = some (.slice ba bs.length bc)) (by kernel_rfl) ?_
        have hS : (fun w' : World => w'.cell? ⟨rb, 0, none⟩ = some (.slice (some ⟨fb, 0, none⟩) r.F.length cap) ∧ w'.cell? ⟨fb, k * 2, none⟩ = some (.string nm) ∧ w'.cell? ⟨fb, k * 2 + 1, none⟩ = some (.slice ba bs.length bc)) wr.drew := ⟨c0, e0, e1⟩
        refine wpAnyK_take (i := 0) (v := ?_) rfl (by kernel_rfl) (by kernel_rfl) (by kernel_rfl) (by kernel_rfl) (fun _ _ _ h => h) (Or.inl ⟨by rfl, ?_⟩) hS ?_
        rotate_left
        · intro w0 hS0; obtain ⟨q0, q1, q2⟩ := hS0; go_simp; try with_reducible rfl
        simp only [Act.put, List.setIfInBounds_toArray, List.set_cons_zero, List.set_cons_succ, List.getElem_toArray, List.getElem_cons_succ, List.getElem_cons_zero]
        refine wpAnyK_take (i := 1) (v := ?_) rfl (by kernel_rfl) (by kernel_rfl) (by kernel_rfl) (by kernel_rfl) (fun _ _ _ h => h) (Or.inl ⟨by rfl, ?_⟩) hS ?_
        rotate_left
        · intro w0 hS0; obtain ⟨q0, q1, q2⟩ := hS0; go_simp; try with_reducible rfl
        simp only [Act.put, List.setIfInBounds_toArray, List.set_cons_zero, List.set_cons_succ, List.getElem_toArray, List.getElem_cons_succ, List.getElem_cons_zero]
        refine wpAnyK_take (i := 2) (v := ?_) rfl (by kernel_rfl) (by kernel_rfl) (by kernel_rfl) (by kernel_rfl) (fun _ _ _ h => h) (Or.inl ⟨by rfl, ?_⟩) hS ?_
        rotate_left
        · intro w0 hS0; obtain ⟨q0, q1, q2⟩ := hS0; go_simp; try with_reducible rfl
        simp only [Act.put, List.setIfInBounds_toArray, List.set_cons_zero, List.set_cons_succ, List.getElem_toArray, List.getElem_cons_succ, List.getElem_cons_zero]
        refine wpAnyK_take (i := 3) (v := ?_) rfl (by kernel_rfl) (by kernel_rfl) (by kernel_rfl) (by kernel_rfl) (fun _ _ _ h => h) (Or.inl ⟨by rfl, ?_⟩) hS ?_
        rotate_left
        · intro w0 hS0; obtain ⟨q0, q1, q2⟩ := hS0; go_simp; try with_reducible rfl
        simp only [Act.put, List.setIfInBounds_toArray, List.set_cons_zero, List.set_cons_succ, List.getElem_toArray, List.getElem_cons_succ, List.getElem_cons_zero]
        refine wpAnyK_take (i := 4) (v := ?_) rfl (by kernel_rfl) (by kernel_rfl) (by kernel_rfl) (by kernel_rfl) (fun _ _ _ h => h) (Or.inl ⟨by rfl, ?_⟩) hS ?_
        rotate_left
        · intro w0 hS0; obtain ⟨q0, q1, q2⟩ := hS0; go_simp; try with_reducible rfl
        simp only [Act.put, List.setIfInBounds_toArray, List.set_cons_zero, List.set_cons_succ, List.getElem_toArray, List.getElem_cons_succ, List.getElem_cons_zero]
        refine wpAnyK_take (i := 5) (v := ?_) rfl (by kernel_rfl) (by kernel_rfl) (by kernel_rfl) (by kernel_rfl) (fun _ _ _ h => h) (Or.inl ⟨by rfl, ?_⟩) hS ?_
        rotate_left
        · intro w0 hS0; obtain ⟨q0, q1, q2⟩ := hS0; go_simp; try with_reducible rfl
        simp only [Act.put, List.setIfInBounds_toArray, List.set_cons_zero, List.set_cons_succ, List.getElem_toArray, List.getElem_cons_succ, List.getElem_cons_zero]
        refine wpAnyK_take (i := 6) (v := ?_) rfl (by kernel_rfl) (by kernel_rfl) (by kernel_rfl) (by kernel_rfl) (fun _ _ _ h => h) (Or.inl ⟨by rfl, ?_⟩) hS ?_
        rotate_left
        · intro w0 hS0; obtain ⟨q0, q1, q2⟩ := hS0; go_simp; try with_reducible rfl
        simp only [Act.put, List.setIfInBounds_toArray, List.set_cons_zero, List.set_cons_succ, List.getElem_toArray, List.getElem_cons_succ, List.getElem_cons_zero]
        refine wpAnyK_take (i := 7) (v := ?_) rfl (by kernel_rfl) (by kernel_rfl) (by kernel_rfl) (by kernel_rfl) (fun _ _ _ h => h) (Or.inl ⟨by rfl, ?_⟩) hS ?_
        rotate_left
        · intro w0 hS0; obtain ⟨q0, q1, q2⟩ := hS0; go_simp; try with_reducible rfl
        simp only [Act.put, List.setIfInBounds_toArray, List.set_cons_zero, List.set_cons_succ, List.getElem_toArray, List.getElem_cons_succ, List.getElem_cons_zero]
        refine wpAnyK_take (i := 8) (v := ?_) rfl (by kernel_rfl) (by kernel_rfl) (by kernel_rfl) (by kernel_rfl) (fun _ _ _ h => h) (Or.inl ⟨by rfl, ?_⟩) hS ?_
        rotate_left
        · intro w0 hS0; obtain ⟨q0, q1, q2⟩ := hS0; go_simp; try with_reducible rfl
        simp only [Act.put, List.setIfInBounds_toArray, List.set_cons_zero, List.set_cons_succ, List.getElem_toArray, List.getElem_cons_succ, List.getElem_cons_zero]
        refine wpAnyK_take (i := 9) (v := ?_) rfl (by kernel_rfl) (by kernel_rfl) (by kernel_rfl) (by kernel_rfl) (fun _ _ _ h => h) (Or.inl ⟨by rfl, ?_⟩) hS ?_
        rotate_left
        · intro w0 hS0; obtain ⟨q0, q1, q2⟩ := hS0; go_simp; try with_reducible rfl
        simp only [Act.put, List.setIfInBounds_toArray, List.set_cons_zero, List.set_cons_succ, List.getElem_toArray, List.getElem_cons_succ, List.getElem_cons_zero]
        refine wpAnyK_take (i := 10) (v := ?_) rfl (by kernel_rfl) (by kernel_rfl) (by kernel_rfl) (by kernel_rfl) (fun _ _ _ h => h) (Or.inl ⟨by rfl, ?_⟩) hS ?_
        rotate_left
        · intro w0 hS0; obtain ⟨q0, q1, q2⟩ := hS0; go_simp; try with_reducible rfl
        simp only [Act.put, List.setIfInBounds_toArray, List.set_cons_zero, List.set_cons_succ, List.getElem_toArray, List.getElem_cons_succ, List.getElem_cons_zero]
        refine wpAnyK_take (i := 11) (v := ?_) rfl (by kernel_rfl) (by kernel_rfl) (by kernel_rfl) (by kernel_rfl) (fun _ _ _ h => h) (Or.inl ⟨by rfl, ?_⟩) hS ?_
        rotate_left
        · intro w0 hS0; obtain ⟨q0, q1, q2⟩ := hS0; go_simp; try with_reducible rfl
        simp only [Act.put, List.setIfInBounds_toArray, List.set_cons_zero, List.set_cons_succ, List.getElem_toArray, List.getElem_cons_succ, List.getElem_cons_zero]
        refine wpAnyK_take (i := 12) (v := ?_) rfl (by kernel_rfl) (by kernel_rfl) (by kernel_rfl) (by kernel_rfl) (fun _ _ _ h => h) (Or.inl ⟨by rfl, ?_⟩) hS ?_
        rotate_left
        · intro w0 hS0; obtain ⟨q0, q1, q2⟩ := hS0; go_simp; try with_reducible rfl
        simp only [Act.put, List.setIfInBounds_toArray, List.set_cons_zero, List.set_cons_succ, List.getElem_toArray, List.getElem_cons_succ, List.getElem_cons_zero]
        refine wpAnyK_take (i := 13) (v := ?_) rfl (by kernel_rfl) (by kernel_rfl) (by kernel_rfl) (by kernel_rfl) (fun _ _ _ h => h) (Or.inl ⟨by rfl, ?_⟩) hS ?_
        rotate_left
        · intro w0 hS0; obtain ⟨q0, q1, q2⟩ := hS0; go_simp; try with_reducible rfl
        simp only [Act.put, List.setIfInBounds_toArray, List.set_cons_zero, List.set_cons_succ, List.getElem_toArray, List.getElem_cons_succ, List.getElem_cons_zero]
        refine wpAnyK_take (i := 14) (v := ?_) rfl (by kernel_rfl) (by kernel_rfl) (by kernel_rfl) (by kernel_rfl) (fun _ _ _ h => h) (Or.inl ⟨by rfl, ?_⟩) hS ?_
        rotate_left
        · intro w0 hS0; obtain ⟨q0, q1, q2⟩ := hS0; go_simp; try with_reducible rfl
        simp only [Act.put, List.setIfInBounds_toArray, List.set_cons_zero, List.set_cons_succ, List.getElem_toArray, List.getElem_cons_succ, List.getElem_cons_zero]
        refine wpAnyK_take (i := 15) (v := ?_) rfl (by kernel_rfl) (by kernel_rfl) (by kernel_rfl) (by kernel_rfl) (fun _ _ _ h => h) (Or.inl ⟨by rfl, ?_⟩) hS ?_
        rotate_left
        · intro w0 hS0; obtain ⟨q0, q1, q2⟩ := hS0; go_simp; try with_reducible rfl
        simp only [Act.put, List.setIfInBounds_toArray, List.set_cons_zero, List.set_cons_succ, List.getElem_toArray, List.getElem_cons_succ, List.getElem_cons_zero]
        refine wpAnyK_take (i := 16) (v := ?_) rfl (by kernel_rfl) (by kernel_rfl) (by kernel_rfl) (by kernel_rfl) (fun _ _ _ h => h) (Or.inl ⟨by rfl, ?_⟩) hS ?_
        rotate_left
        · intro w0 hS0; obtain ⟨q0, q1, q2⟩ := hS0; go_simp; try with_reducible rfl
        simp only [Act.put, List.setIfInBounds_toArray, List.set_cons_zero, List.set_cons_succ, List.getElem_toArray, List.getElem_cons_succ, List.getElem_cons_zero]
        clear hS
        refine wpAnyK_one (i := 17) rfl (by kernel_rfl) rfl ?_
        go_simp
        refine wpAnyK_one (i := 18) rfl (by kernel_rfl) rfl ?_
        go_simp
        refine wpAnyK_one (i := 19) rfl (by kernel_rfl) rfl ?_
        go_simp
        refine ⟨a0, ?_⟩
        refine wpAnyK_one (i := 20) rfl (by kernel_rfl) rfl ?_
        refine wp_b2 (vs := .slice xa ol.length xc) (vx := .slice (some ⟨wr.heap.size, 0, none⟩) 1 1) (v' := .slice (some ⟨gb, 0, none⟩) (ol.length + 1) vc) (w' := w8) .append Builtin.append_ (fun _ _ _ _ => rfl) (.tmp 25) (.tmp 44) 40 40 ?_ ?_ ?_ ?_ ?_
        · rfl
        · rfl
        · rfl
        · exact hrun
        refine ⟨fun _ => ⟨f0, f1, f2⟩, ?_⟩
        refine wpAnyK_one (i := 21) rfl (by kernel_rfl) rfl ?_
        go_simp
        refine wpAnyK_done (by kernel_rfl) ?_ _
        clear hrun f0 f1 f2 flt8 a0 a1 a2 alt c0 e0 e1 flt CV
        go_wp2_with fail
        go_loopw [5] (fun i wr => ∃ j : Nat, j ≤ ol.length ∧ i = .int .i64 j ∧ Hid (∃ mx, m.le mx ∧ Has wr mx ∧ Env w wr ∧ Row mx (.slice (some ⟨gb, 0, none⟩) (ol.length + 1) vc) 60 2 (ol.length + 1) ((bub ol (nm, ⟨bs.toArray⟩) j).flatMap fileCells)) ∧ Hid (∀ y ∈ ol.drop j, leF (nm, ⟨bs.toArray⟩) y)) (fun i _ => (intOf i).toNat)
        case atStart => exact ⟨ol.length, Nat.le_refl _, by go_num, HRW, Lib.hid (by simp)⟩
        case round =>
          clear HRW
          obtain ⟨j, hj, rfl, HRW, HLO⟩ := hrel
          obtain ⟨mx, lx, hwx, nx, rowx⟩ := HRW.out
          have hbl := bub_len (f := (nm, (⟨bs.toArray⟩ : ByteArray))) hj
          rcases Nat.eq_zero_or_pos j with hj0 | hjp
          · subst hj0
            have HHI : Hid (∀ y ∈ ol.take 0, leF y (nm, (⟨bs.toArray⟩ : ByteArray))) := Lib.hid (by simp)
            have LX := Lib.hid lx
            have HWX := Lib.hid hwx
            have NX := Lib.hid nx
            have ROWX := Lib.hid rowx
            have HBL := Lib.hid hbl
            clear lx hwx nx rowx hbl HRW
            go_wp2_with fail
            go_quiet (fail)
            go_wp2_with fail
            go_roundw
            case rel =>
              refine ⟨k + 1, bub ol (nm, ⟨bs.toArray⟩) 0, some ⟨gb, 0, none⟩, vc, by omega, hlt, by go_num, by rw [HBL.out], Lib.hid ⟨mx, LX.out, HWX.out.drewN nq, NX.out.drewN nq, ⟨by rw [HBL.out]; exact ROWX.out, by rw [HBL.out]; exact OWN.out⟩⟩, Lib.hid ?_, Lib.hid (bub_sorted HS.out HLO.out HHI.out)⟩
              rw [HES.out, if_neg HEM.out]
              exact (bub_perm _ _ _).trans (HP.out.append_right _)
            case measure => simp [intOf]; omega
          · obtain ⟨q, hq⟩ : ∃ q, j = q + 1 := ⟨j - 1, by omega⟩
            have hql : q < ol.length := by omega
            have n1 : (j : Int) - 1 = (q : Int) := by omega
            have n2 : 0 < (j : Int) := by omega
            have rowL : Row mx (.slice (some ⟨gb, 0, none⟩) (ol.length + 1) vc) 60 2 (bub ol (nm, ⟨bs.toArray⟩) j).length ((bub ol (nm, ⟨bs.toArray⟩) j).flatMap fileCells) := by rw [hbl]; exact rowx
            have gq : (bub ol (nm, (⟨bs.toArray⟩ : ByteArray)) j)[q]'(by omega) = ol[q] := by
              have h := bub_pre (f := (nm, (⟨bs.toArray⟩ : ByteArray))) hql
              rw [← hq] at h
              rw [List.getElem?_eq_getElem (by omega)] at h
              exact Option.some.inj h
            have gj : (bub ol (nm, (⟨bs.toArray⟩ : ByteArray)) j)[j]'(by omega) = (nm, ⟨bs.toArray⟩) := by
              have h := bub_at (f := (nm, (⟨bs.toArray⟩ : ByteArray))) hj
              rw [List.getElem?_eq_getElem (by omega)] at h
              exact Option.some.inj h
            obtain ⟨p0, p1, p2, p3, -⟩ := Row.put2 rowL hwx q (by omega) (nm, ⟨bs.toArray⟩)
            obtain ⟨r0, r1, r2, r3, -⟩ := Row.put2 rowL hwx j (by omega) (nm, ⟨bs.toArray⟩)
            rw [gq] at p0 p1
            rw [gj] at r0 r1
            have glt : gb < wr.heap.size := by
              obtain ⟨_, _, hx⟩ := rowx.ty (b := gb) rfl
              exact hwx.lt hx
            obtain ⟨⟨pm, pb⟩, hpm⟩ : ∃ p, ol[q] = p := ⟨_, rfl⟩
            rw [hpm] at p0 p1
            simp only at p0 p1 r0 r1
            have HPM := Lib.hid hpm
            have HQ := Lib.hid hq
            have hjl : j < ol.length + 1 := by omega
            have hql1 : q < ol.length + 1 := by omega
            clear hpm hq gq gj
            cases hc1 : Op.bytesLess pm.toList nm.toList with
            | true =>
              have HHI : Hid (∀ y ∈ ol.take j, leF y (nm, (⟨bs.toArray⟩ : ByteArray))) := Lib.hid (by rw [HQ.out]; exact take_hi HS.out hql (by rw [HPM.out]; exact leF_of_less hc1))
              have LX := Lib.hid lx
              have HWX := Lib.hid hwx
              have NX := Lib.hid nx
              have ROWX := Lib.hid rowx
              have HBL := Lib.hid hbl
              clear lx hwx nx rowx hbl HRW rowL
              go_wp2_with fail
              go_quiet (fail)
              go_wp2_with fail
              go_roundw
              case rel =>
                refine ⟨k + 1, bub ol (nm, ⟨bs.toArray⟩) j, some ⟨gb, 0, none⟩, vc, by omega, hlt, by go_num, by rw [HBL.out], Lib.hid ⟨mx, LX.out, HWX.out.drewN nq, NX.out.drewN nq, ⟨by rw [HBL.out]; exact ROWX.out, by rw [HBL.out]; exact OWN.out⟩⟩, Lib.hid ?_, Lib.hid (bub_sorted HS.out HLO.out HHI.out)⟩
                rw [HES.out, if_neg HEM.out]
                exact (bub_perm _ _ _).trans (HP.out.append_right _)
              case measure => simp [intOf]; omega
            | false =>
              by_cases hc2 : pm.toList = nm.toList
              · have hc3 : (pm.toList == nm.toList) = true := by rw [hc2]; simp
                have HHI : Hid (∀ y ∈ ol.take j, leF y (nm, (⟨bs.toArray⟩ : ByteArray))) := Lib.hid (by rw [HQ.out]; exact take_hi HS.out hql (by rw [HPM.out, show pm = nm from toList_inj hc2]; exact List.le_refl _))
                have LX := Lib.hid lx
                have HWX := Lib.hid hwx
                have NX := Lib.hid nx
                have ROWX := Lib.hid rowx
                have HBL := Lib.hid hbl
                clear lx hwx nx rowx hbl HRW rowL
                go_wp2_with fail
                go_quiet (fail)
                go_wp2_with fail
                go_roundw
                case rel =>
                  refine ⟨k + 1, bub ol (nm, ⟨bs.toArray⟩) j, some ⟨gb, 0, none⟩, vc, by omega, hlt, by go_num, by rw [HBL.out], Lib.hid ⟨mx, LX.out, HWX.out.drewN nq, NX.out.drewN nq, ⟨by rw [HBL.out]; exact ROWX.out, by rw [HBL.out]; exact OWN.out⟩⟩, Lib.hid ?_, Lib.hid (bub_sorted HS.out HLO.out HHI.out)⟩
                  rw [HES.out, if_neg HEM.out]
                  exact (bub_perm _ _ _).trans (HP.out.append_right _)
                case measure => simp [intOf]; omega
              · have hc3 : (pm.toList == nm.toList) = false := by simpa using hc2
                have HLO2 : Hid (∀ y ∈ ol.drop q, leF (nm, (⟨bs.toArray⟩ : ByteArray)) y) := Lib.hid (fun y hy => by
                  rw [List.drop_eq_getElem_cons hql] at hy
                  rcases List.mem_cons.1 hy with rfl | hy
                  · rw [HPM.out]; exact leF_of_not hc1
                  · exact HLO.out y (by rw [HQ.out]; exact hy))
                go_wp2_with fail
                go_quiet (fail)
                have hwq := hwx.drewN nq
                have nwq := nx.drewN nq
                generalize wr.drewN nq = wq at hwq nwq ⊢
                clear p0 p1 p2 p3 r0 r1 r2 r3 glt
                have gq : (bub ol (nm, (⟨bs.toArray⟩ : ByteArray)) j)[q]'(by omega) = (pm, pb) := by
                  have h := bub_pre (f := (nm, (⟨bs.toArray⟩ : ByteArray))) hql
                  rw [← HQ.out] at h
                  rw [List.getElem?_eq_getElem (by omega)] at h
                  exact (Option.some.inj h).trans HPM.out
                have gj : (bub ol (nm, (⟨bs.toArray⟩ : ByteArray)) j)[j]'(by omega) = (nm, ⟨bs.toArray⟩) := by
                  have h := bub_at (f := (nm, (⟨bs.toArray⟩ : ByteArray))) hj
                  rw [List.getElem?_eq_getElem (by omega)] at h
                  exact Option.some.inj h
                obtain ⟨r0, r1, r2, r3, -⟩ := Row.put2 rowL hwq j (by omega) (nm, ⟨bs.toArray⟩)
                rw [gj] at r0 r1
                simp only at r0 r1
                obtain ⟨p0, p1, p2, p3, -⟩ := Row.put2 rowL hwq q (by omega) (nm, ⟨bs.toArray⟩)
                rw [gq] at p0 p1
                simp only at p0 p1
                have glt : gb < wq.heap.size := by
                  obtain ⟨_, _, hx⟩ := rowx.ty (b := gb) rfl
                  exact hwq.lt hx
                have hne1 : gb ≠ wq.heap.size := by omega
                have hne2 : ¬ wq.heap.size = gb := by omega
                have hqj : ¬ q = j := by omega
                have hjq : ¬ j = q := by omega
                have hd1 : ¬ q * 2 = j * 2 := by omega
                have hd2 : ¬ q * 2 = j * 2 + 1 := by omega
                have hd3 : ¬ q * 2 + 1 = j * 2 := by omega
                have hd4 : ¬ j * 2 = q * 2 := by omega
                have hd5 : ¬ j * 2 + 1 = q * 2 := by omega
                have hd6 : ¬ j * 2 = q * 2 + 1 := by omega
                obtain ⟨-, -, -, -, o1, hs1, rw1⟩ := Row.put2 rowL hwq j (by omega) (pm, pb)
                have rw1' : Row (mx.set gb o1) (.slice (some ⟨gb, 0, none⟩) (ol.length + 1) vc) 60 2 ((bub ol (nm, ⟨bs.toArray⟩) j).set j (pm, pb)).length (((bub ol (nm, ⟨bs.toArray⟩) j).set j (pm, pb)).flatMap fileCells) := by
                  rw [List.length_set]; exact rw1
                obtain ⟨-, -, -, -, o2, hs2, rw2⟩ := Row.put2 rw1' hs1 q (by rw [List.length_set]; omega) (nm, ⟨bs.toArray⟩)
                have hbs : ((bub ol (nm, (⟨bs.toArray⟩ : ByteArray)) j).set j (pm, pb)).set q (nm, ⟨bs.toArray⟩) = bub ol (nm, ⟨bs.toArray⟩) q := by
                  have h := bub_step (f := (nm, (⟨bs.toArray⟩ : ByteArray))) hql
                  rw [← HQ.out, HPM.out] at h
                  exact h
                rw [hbs, List.length_set, hbl] at rw2
                have lm2 : m.le ((mx.set gb o1).set gb o2) := fun b o hb => by
                  have hg : b ≠ gb := fun e => by have := OWN.out gb rfl; rw [← e, hb] at this; cases this
                  rw [Mem.set_ne _ _ hg, Mem.set_ne _ _ hg]
                  exact lx _ _ hb
                have HS2 := Lib.hid (hs2.keep (.cells #[.string nm, .string ⟨bs.toArray⟩] 60))
                have RW2 := Lib.hid rw2
                have LM2 := Lib.hid lm2
                have NW2 := Lib.hid (((((nwq.setCell ⟨gb, j * 2, none⟩ (.string pm)).setCell ⟨gb, j * 2 + 1, none⟩ (.string pb)).setCell ⟨gb, q * 2, none⟩ (.string nm)).setCell ⟨gb, q * 2 + 1, none⟩ (.string ⟨bs.toArray⟩)).alloc (.cells #[.string nm, .string ⟨bs.toArray⟩] 60))
                clear hs2 rw2 lm2 hbs rw1' hs1 rw1 gq gj rowL rowx hwx lx nx hwq nwq hbl HRW
                go_wp2_with fail
                go_roundw
                case rel => exact ⟨q, by omega, by go_num, Lib.hid ⟨_, LM2.out, HS2.out, NW2.out, RW2.out⟩, HLO2⟩
                case measure => simp [intOf]; omega
    · clear hr hat
      have HRO : Hid (FilesR m ol (.slice xa ol.length xc) mr) := ⟨row, own⟩
      have HWR := Lib.hid hwr
      have LR := Lib.hid lr
      have NR := Lib.hid nr
      clear row own hwr lr nr HX
      go_wp2_with fail
      go_ret
      refine Post.mk mr LR.out HWR.out NR.out ⟨ol, HRO.out, ?_, HS.out⟩
      have h := HP.out
      rwa [List.take_of_length_le (by omega)] at h
end Go.Proofs.YtcdmdkgiabfbeaaGreatDoor

/-
  Both stores list the same files.
-/
namespace Go.Proofs.YtcdmdkgiabfbeaaGreatDoor
open Go.RowKit

theorem filesOf_perm {L : List Ent} (hn : (L.map (·.name)).Nodup) : (filesOf L).Perm (L.map fun e => (e.name, ⟨e.bs.toArray⟩)) := by
  unfold filesOf namesB
  refine ((List.mergeSort_perm (L.map fun e => e.name.data.toList) leB).map _).trans (List.Perm.of_eq ?_)
  rw [List.map_map]
  refine List.map_congr_left fun e he => ?_
  have h1 : (⟨e.name.data.toList.toArray⟩ : ByteArray) = e.name := by cases e.name; simp
  simp only [Function.comp, h1, getE_of hn he, Option.map_some, Option.getD_some]

theorem filesOf_sorted (L : List Ent) : (filesOf L).Pairwise leF := by
  unfold filesOf namesB
  have tr : ∀ a b c : List UInt8, leB a b = true → leB b c = true → leB a c = true := fun a b c h1 h2 => by simp only [leB, decide_eq_true_eq] at *; exact List.le_trans h1 h2
  have to : ∀ a b : List UInt8, (leB a b || leB b a) = true := fun a b => by simp only [leB, Bool.or_eq_true, decide_eq_true_eq]; exact List.le_total a b
  refine List.pairwise_map.2 ((List.pairwise_mergeSort tr to (L.map fun e => e.name.data.toList)).imp fun {a b} h => ?_)
  show a.toArray.toList ≤ b.toArray.toList
  simpa [leB] using h

/-- The two lists are one. -/
theorem files_eq {L : List Ent} {F : List RF} {ol : List File2} (hn : (L.map (·.name)).Nodup) (hp : (L.map fun e => (e.name, (⟨e.bs.toArray⟩ : ByteArray))).Perm (ents F)) (ho : ol.Perm (ents F)) (hs : ol.Pairwise leF) : ol = filesOf L := by
  have hpp : ol.Perm (filesOf L) := ho.trans (hp.symm.trans (filesOf_perm hn).symm)
  refine List.Perm.eq_of_pairwise (le := leF) (fun a b ha hb h1 h2 => ?_) hs (filesOf_sorted L) hpp
  have he : a.1 = b.1 := by
    have h3 : a.1.data.toList = b.1.data.toList := List.le_antisymm h1 h2
    cases a with | mk a1 a2 => cases b with | mk b1 b2 =>
    cases a1; cases b1
    simp only [ByteArray.mk.injEq] at h3 ⊢
    exact Array.toList_inj.1 h3
  have ha' := (filesOf_perm hn).mem_iff.1 (hpp.mem_iff.1 ha)
  have hb' := (filesOf_perm hn).mem_iff.1 hb
  obtain ⟨d, hd, rfl⟩ := List.mem_map.1 ha'
  obtain ⟨e, hm, rfl⟩ := List.mem_map.1 hb'
  rw [nodup_inj hn hd hm he]
end Go.Proofs.YtcdmdkgiabfbeaaGreatDoor
