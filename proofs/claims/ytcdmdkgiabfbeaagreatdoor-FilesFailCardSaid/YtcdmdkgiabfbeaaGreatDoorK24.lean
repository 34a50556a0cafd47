/-
  Delete. (printed by delete_gen.py)
-/
import Derived.Test.YtcdmdkgiabfbeaaGreatDoorK08
import Derived.Test.YtcdmdkgiabfbeaaGreatDoorK03
import Derived.Test.YtcdmdkgiabfbeaaGreatDoorK19
import Derived.Test.YtcdmdkgiabfbeaaGreatDoorK23
import Derived.Test.YtcdmdkgiabfbeaaGreatDoorK21
import Derived.Test.YtcdmdkgiabfbeaaGreatDoorK20
import Derived.Test.YtcdmdkgiabfbeaaGreatDoorK15
namespace Go.Proofs.YtcdmdkgiabfbeaaGreatDoor
open Go.RowKit

theorem firstOf_delete_g {m : Mem} {sb : Nat} {g : G} (r : SRep m sb g.tick) (s : ByteArray) (c1 c2 c3 : Value) :
    firstOf g.now.2.1 [(c1, -38, !isNameB s), (c2, -38, (getE g.L s).isNone), (c3, -69, g.O.any (isOf g.L s))] = g.abs.deleteX s := by
  have hn := abs_none g s
  have hw : g.abs.now.2.1 = g.now.2.1 := rfl
  unfold A.deleteX
  rw [hn, hw]
  cases hl : (getE g.L s).isNone with
  | true =>
    by_cases h0 : g.now.2.1 = 0
    · cases isNameB s <;> simp [firstOf, h0]
    · simp [firstOf, h0]
  | false =>
    have hu : g.abs.used s = g.O.any (isOf g.L s) := abs_used (g := g.tick) r (by rw [← hl]; exact abs_none g s)
    rw [hu]
    by_cases h0 : g.now.2.1 = 0
    · cases isNameB s <;> cases g.O.any (isOf g.L s) <;> simp [firstOf, h0]
    · simp [firstOf, h0]

set_option maxHeartbeats 4000000 in
set_option maxRecDepth 100000 in
theorem delete_any (sb : Nat) (s : ByteArray) (g : G) (w : World) (m : Mem) (hm : Has w m) (hr : SRep m sb g) (hG : GlobOk m) (h0 : ¬ FP sb g 0) (hn : g.n ≤ 999999) :
    Calls Tryz.prog 13 #[.pointer (some ⟨sb, 0, none⟩), .string s] w
      (Ans w (OpR m sb g (fun _ => False) (g.abs.deleteF s) (fun _ _ => True))) := by
  have BG := begin_g sb g w m hm hr hn
  have hGs := (Fr.tick (Mem.le_refl (m.set sb (storeObj g.tick))) (fun _ => False)).glob (by rintro (x | x); exact h0 x; exact x) hG
  have frS := Fr.tick (Mem.le_refl (m.set sb (storeObj g.tick))) (fun _ => False)
  have HBG := Lib.hid BG
  have HR1 := Lib.hid hr.count
  have HG1 := Lib.hid hGs
  have FRS := Lib.hid frS
  have H0 := Lib.hid h0
  clear hm hr hG h0 hn BG hGs frS
  go_enter Tryz.func13, Tryz.ntmps13
  go_wp2_with fail
  refine HBG.out.mono ?_
  rintro e w2 ⟨v, m2, rfl, l2, h2, n2, ev, rfl, hev⟩
  have hsz := h2.fresh (Nat.le_refl w2.heap.size)
  have H2 := Lib.hid (h2.alloc (.cells #[.int .i64 g.now.1, .int .i64 g.now.2.1, .int .i64 g.now.2.2] 47))
  have l3 := Mem.le_set m2 (.cells #[.int .i64 g.now.1, .int .i64 g.now.2.1, .int .i64 g.now.2.2] 47) hsz
  have N2 := Lib.hid (n2.alloc (.cells #[.int .i64 g.now.1, .int .i64 g.now.2.1, .int .i64 g.now.2.2] 47))
  have HEV := Lib.hid (hev.le l3)
  have LB := Lib.hid (Mem.le_trans l2 l3)
  clear l2 h2 n2 hev l3 hsz
  simp only [failV]
  go_wp2_with fail
  generalize w2.alloc (.cells #[.int .i64 g.now.1, .int .i64 g.now.2.1, .int .i64 g.now.2.2] 47) = w3 at *
  generalize m2.set w2.heap.size (.cells #[.int .i64 g.now.1, .int .i64 g.now.2.1, .int .i64 g.now.2.2] 47) = m3 at *
  have H3 := H2
  have N3 := N2
  have L3 := Lib.hid (Mem.le_refl m3)
  have R3 := Lib.hid (HR1.out.le LB.out)
  clear H2 N2
  refine (named_any s _ _ H3.out).mono ?_
  rintro e1 w4 ⟨v1, m4, rfl, l4, h4, n4, hv1⟩
  obtain ⟨p1, q1, i1, hc1, _⟩ := hv1.imp (fun _ h => h)
  subst hc1
  have H4 := Lib.hid h4
  have N4 := Lib.hid (N3.out.trans n4)
  have L4 := Lib.hid (Mem.le_trans L3.out l4)
  have K1 := Lib.hid hv1
  clear l4 h4 n4 hv1
  go_wp2_with fail
  refine (there_any sb _ s _ _ H4.out (R3.out.le L4.out)).mono ?_
  rintro e2 w5 ⟨v2, m5, rfl, l5, h5, n5, hv2⟩
  obtain ⟨p2, q2, i2, hc2, _⟩ := hv2.imp (fun _ h => h)
  subst hc2
  have H5 := Lib.hid h5
  have N5 := Lib.hid (N4.out.trans n5)
  have L5 := Lib.hid (Mem.le_trans L4.out l5)
  have K1 := Lib.hid (K1.out.le l5)
  have K2 := Lib.hid hv2
  clear l5 h5 n5 hv2
  go_wp2_with fail
  refine (shut_any sb _ s _ _ H5.out (R3.out.le L5.out)).mono ?_
  rintro e3 w6 ⟨v3, m6, rfl, l6, h6, n6, hv3⟩
  obtain ⟨p3, q3, i3, hc3, _⟩ := hv3.imp (fun _ h => h)
  subst hc3
  have H6 := Lib.hid h6
  have N6 := Lib.hid (N5.out.trans n6)
  have L6 := Lib.hid (Mem.le_trans L5.out l6)
  have K1 := Lib.hid (K1.out.le l6)
  have K2 := Lib.hid (K2.out.le l6)
  have K3 := Lib.hid hv3
  clear l6 h6 n6 hv3
  go_wp2_with fail
  have hal := H6.out.alloc (.cells #[.func (.func 78) #[] #[.pointer (some ⟨p1, 0, none⟩), .pointer (some ⟨q1, 0, none⟩)], .func (.func 78) #[] #[.pointer (some ⟨p2, 0, none⟩), .pointer (some ⟨q2, 0, none⟩)], .func (.func 78) #[] #[.pointer (some ⟨p3, 0, none⟩), .pointer (some ⟨q3, 0, none⟩)]] 74)
  have lal := Mem.le_set m6 (.cells #[.func (.func 78) #[] #[.pointer (some ⟨p1, 0, none⟩), .pointer (some ⟨q1, 0, none⟩)], .func (.func 78) #[] #[.pointer (some ⟨p2, 0, none⟩), .pointer (some ⟨q2, 0, none⟩)], .func (.func 78) #[] #[.pointer (some ⟨p3, 0, none⟩), .pointer (some ⟨q3, 0, none⟩)]] 74) (H6.out.fresh (Nat.le_refl _))
  have FA := first_any ev g.now.2.1 w6.heap.size [(.func (.func 78) #[] #[.pointer (some ⟨p1, 0, none⟩), .pointer (some ⟨q1, 0, none⟩)], -38, !isNameB s), (.func (.func 78) #[] #[.pointer (some ⟨p2, 0, none⟩), .pointer (some ⟨q2, 0, none⟩)], -38, (getE g.L s).isNone), (.func (.func 78) #[] #[.pointer (some ⟨p3, 0, none⟩), .pointer (some ⟨q3, 0, none⟩)], -69, g.O.any (isOf g.L s))] _ _ hal ((HEV.out.le L6.out).le lal) (Mem.set_same _ _ _)
    (fun c hc => by
      simp only [List.mem_cons, List.not_mem_nil, or_false] at hc
      rcases hc with rfl | rfl | rfl
      · exact ⟨K1.out.le lal, show (-38 : Int) ≠ 0 by decide⟩
      · exact ⟨K2.out.le lal, show (-38 : Int) ≠ 0 by decide⟩
      · exact ⟨K3.out.le lal, show (-69 : Int) ≠ 0 by decide⟩) (by simp)
  refine FA.mono ?_
  rintro e9 w8 ⟨v8, m8, rfl, l8, h8, n8, hv8⟩
  have hXX := firstOf_delete_g R3.out s (.func (.func 78) #[] #[.pointer (some ⟨p1, 0, none⟩), .pointer (some ⟨q1, 0, none⟩)]) (.func (.func 78) #[] #[.pointer (some ⟨p2, 0, none⟩), .pointer (some ⟨q2, 0, none⟩)]) (.func (.func 78) #[] #[.pointer (some ⟨p3, 0, none⟩), .pointer (some ⟨q3, 0, none⟩)])
  have hX := hXX
  clear hXX
  rw [hX] at hv8
  have L8 := Lib.hid (Mem.le_trans L6.out (Mem.le_trans lal l8))
  have H8 := Lib.hid h8
  have N8 := Lib.hid ((N6.out.alloc (.cells #[.func (.func 78) #[] #[.pointer (some ⟨p1, 0, none⟩), .pointer (some ⟨q1, 0, none⟩)], .func (.func 78) #[] #[.pointer (some ⟨p2, 0, none⟩), .pointer (some ⟨q2, 0, none⟩)], .func (.func 78) #[] #[.pointer (some ⟨p3, 0, none⟩), .pointer (some ⟨q3, 0, none⟩)]] 74)).trans n8)
  have V8 := Lib.hid hv8
  have R8 := Lib.hid (R3.out.le L8.out)
  clear hal lal FA l8 h8 n8 hv8 hX
  by_cases hx : g.abs.deleteX s = 0
  · obtain rfl : v8 = .nilIface := by
      rcases V8.out with ⟨_, h⟩ | ⟨h, _⟩
      · exact h
      · exact absurd hx h
    have HX := Lib.hid hx
    obtain ⟨e, he⟩ : ∃ e, getE g.L s = some e := by
      have h1 := (deleteX_zero hx).1
      rw [abs_none] at h1
      cases hg : getE g.L s with
      | some e => exact ⟨e, rfl⟩
      | none => rw [hg] at h1; cases h1
    have r8 := R8.out
    have t0 : w8.cell? ⟨sb, 0, none⟩ = some (.map (some g.mb)) := by rw [H8.out.cell r8.store]; rfl
    have t1 : w8.heap[g.mb]? = some (.map (g.L.map Ent.entry).toArray g.clock) := H8.out _ _ r8.map
    have HE := Lib.hid he
    have hnu := not_used r8 (deleteX_zero hx).2
    have hdel : (Builtin.delete_ #[68, 9] 0 #[.map (some g.mb), .string s]).run Tryz.prog w8 = .ok (.tuple #[]) (setObjW w8 g.mb (mapObj (dropE g.L s) g.clock)) := run_deleteF g.mb g.clock g.L s w8 t1
    have hset := H8.out.setObj r8.map (mapObj (dropE g.L s) g.clock)
    have rd := r8.drop (g := g.tick) he hnu
    have ad := abs_drop (g := g.tick) R3.out he
    have s0 := H8.out.lt r8.store
    have HSET := Lib.hid hset
    have RD := Lib.hid rd
    have AD := Lib.hid ad
    clear hx he r8 hnu hset rd ad t1
    go_wp2_with (at_builtin; refine wpList_b2 rfl .delete Builtin.delete_ (fun _ _ _ _ => rfl) _ _ _ _ rfl rfl rfl hdel ?_)
    have g8 : GlobOk m8 := (HG1.out.le LB.out).le L8.out
    have fS : Fr m8 (m8.set g.mb (mapObj (dropE g.L s) g.clock)) (FP sb g) (FP sb { g with L := dropE g.L s }) := (Fr.set (P := FP sb g) _ (.inl (.inr (.inl rfl)))).mono (fun b hb => .inl (FP_drop hb))
    have gS : GlobOk (m8.set g.mb (mapObj (dropE g.L s) g.clock)) := fS.glob H0.out g8
    refine (ior_any .nilIface 0 _ _ HSET.out gS (.inl ⟨rfl, rfl⟩)).mono ?_
    rintro e1 w9 ⟨v9, m9, rfl, l9, h9, n9, rfl⟩
    have L9 := Lib.hid l9
    have H9 := Lib.hid h9
    have N9 := Lib.hid ((N8.out.setObj g.mb (mapObj (dropE g.L s) g.clock)).trans n9)
    have FS := Lib.hid fS
    clear l9 h9 n9 g8 gS fS
    go_wp2_with fail
    go_ret
    have hF : g.abs.deleteF s = (g.abs.tick.drop s, 0, ()) := by unfold A.deleteF; rw [if_neg (fun c => c HX.out)]
    rw [hF]
    exact ⟨_, m9, rfl, H9.out, N9.out, _, RD.out.le L9.out, ((FRS.out.le (Mem.le_trans LB.out L8.out)).trans (((FS.out.le L9.out).more (fun _ => False)))).mono (fun b hb => .inr (.inl hb)), AD.out, rfl, trivial⟩
  · obtain ⟨b4, hb4⟩ : ∃ b, v8 = .iface 104 (.pointer (some ⟨b, 0, none⟩)) := by
      rcases V8.out with ⟨h, _⟩ | ⟨_, b, h, _⟩
      · exact absurd h hx
      · exact ⟨b, h⟩
    subst hb4
    have HX := Lib.hid hx
    clear hx
    go_wp2_with fail
    have g8 : GlobOk m8 := (HG1.out.le LB.out).le L8.out
    refine (ior_any _ _ _ _ H8.out g8 V8.out).mono ?_
    rintro e1 w9 ⟨v9, m9, rfl, l9, h9, n9, rfl⟩
    have L9 := Lib.hid (Mem.le_trans LB.out (Mem.le_trans L8.out l9))
    have H9 := Lib.hid h9
    have N9 := Lib.hid (N8.out.trans n9)
    clear l9 h9 n9 g8
    go_wp2_with fail
    go_ret
    have hF : g.abs.deleteF s = (g.abs.tick, g.abs.deleteX s, ()) := by unfold A.deleteF; rw [if_pos HX.out]
    rw [hF]
    exact ⟨_, m9, rfl, H9.out, N9.out, g.tick, HR1.out.le L9.out, (FRS.out.le L9.out).mono (fun b hb => .inl (.inl hb)), rfl, rfl, trivial⟩
end Go.Proofs.YtcdmdkgiabfbeaaGreatDoor

/-
  A call on both stores is answered alike: one result (printed by does_gen.py)
-/
namespace Go.Proofs.YtcdmdkgiabfbeaaGreatDoor
open Go.RowKit

set_option maxHeartbeats 2000000 in
set_option maxRecDepth 100000 in
theorem does_close (sb rb : Nat) (nm to : ByteArray) (id n : Int) (bv : Value) (bs : List UInt8) (g : G) (r : RG) (w : World) (m : Mem) (hm : Has w m) (h : Two m sb rb g r) (hG : GlobOk m) (h0 : ¬ PP sb rb g r 0) (hn : g.n ≤ 9998) :
    Calls Tryz.prog 20 #[.pointer (some ⟨sb, 0, none⟩), .pointer (some ⟨rb, 0, none⟩), .agg #[.int .i64 3, .string nm, .string to, .int .i64 id, .int .i64 n, bv]] w (DoesR w m sb rb g r (g.abs.withA id () (closeF (id - 1).toNat)).1) := by
  have hfr := hm.fresh (Nat.le_refl w.heap.size)
  have L := Mem.le_set m (.cells #[.int .i64 3, .string nm, .string to, .int .i64 id, .int .i64 n, bv] 28) hfr
  have HM := Lib.hid (hm.alloc (.cells #[.int .i64 3, .string nm, .string to, .int .i64 id, .int .i64 n, bv] 28))
  have hkn : ∀ b, PP sb rb g r b → b ≠ w.heap.size := fun b hb e => by
    obtain ⟨o, ho⟩ := h.known hb
    rw [e, hfr] at ho; cases ho
  have h' := h.le L
  have hb : (m.set w.heap.size (.cells #[.int .i64 3, .string nm, .string to, .int .i64 id, .int .i64 n, bv] 28)) w.heap.size = some (.cells #[.int .i64 3, .string nm, .string to, .int .i64 id, .int .i64 n, bv] 28) := Mem.set_same _ _ _
  have hG' := hG.le L
  have FR0 := Lib.hid (Fr.of_le L (PP sb rb g r))
  obtain ⟨m', hm'⟩ : ∃ m', m.set w.heap.size (.cells #[.int .i64 3, .string nm, .string to, .int .i64 id, .int .i64 n, bv] 28) = m' := ⟨_, rfl⟩
  rw [hm'] at HM FR0
  have HT := Lib.hid h'
  rw [hm'] at HT
  have HB := Lib.hid hb
  rw [hm'] at HB
  have HKN := Lib.hid hkn
  rw [hm'] at hG' L
  have n0 : Env w (w.alloc (.cells #[.int .i64 3, .string nm, .string to, .int .i64 id, .int .i64 n, bv] 28)) := (Env.refl w).alloc _
  have N0 := Lib.hid n0
  have HO := Lib.hid (close_any sb id g _ m' HM.out.drew HT.out.st hG' (fun x => h0 (.inl x)) (by omega))
  obtain ⟨F, hF⟩ : ∃ F, g.abs.withA id () (closeF (id - 1).toNat) = F := ⟨_, rfl⟩
  have hF2 : r.abs.withA id () (closeF (id - 1).toNat) = F := by rw [h.eq]; exact hF
  rw [hF] at HO
  rw [hF]
  have HF2 := Lib.hid hF2
  have hn2 : r.n ≤ 9998 := by rw [h.n]; exact hn
  clear hm h hG h0 hF hF2 h' hb hm' hkn n0 hfr L hG'
  obtain ⟨a1, x, i⟩ := F
  go_enter Tryz.func20, Tryz.ntmps20
  go_wp2_with fail
  refine wp_region_K 9 (fun w' => w'.cell? ⟨w.heap.size, 1, none⟩ = some (.string nm) ∧ w'.cell? ⟨w.heap.size, 2, none⟩ = some (.string to) ∧ w'.cell? ⟨w.heap.size, 3, none⟩ = some (.int .i64 id) ∧ w'.cell? ⟨w.heap.size, 4, none⟩ = some (.int .i64 n)) (by kernel_rfl) ?_
  have hS : (fun w' : World => w'.cell? ⟨w.heap.size, 1, none⟩ = some (.string nm) ∧ w'.cell? ⟨w.heap.size, 2, none⟩ = some (.string to) ∧ w'.cell? ⟨w.heap.size, 3, none⟩ = some (.int .i64 id) ∧ w'.cell? ⟨w.heap.size, 4, none⟩ = some (.int .i64 n)) (w.alloc (.cells #[.int .i64 3, .string nm, .string to, .int .i64 id, .int .i64 n, bv] 28)).drew := by
    refine ⟨?_, ?_, ?_, ?_⟩ <;> (rw [HM.out.drew.cell HB.out]; rfl)
  refine wpAnyK_take (i := 0) (v := ?_) rfl (by kernel_rfl) (by kernel_rfl) (by kernel_rfl) (by kernel_rfl) (fun _ _ _ h => h) (Or.inl ⟨by rfl, ?_⟩) hS ?_
  rotate_left
  · intro w0 hS0; obtain ⟨q0, q1, q2, q3⟩ := hS0; go_simp; try with_reducible rfl
  simp only [Act.put, List.setIfInBounds_toArray, List.set_cons_zero, List.set_cons_succ, List.getElem_toArray, List.getElem_cons_succ, List.getElem_cons_zero]
  refine wpAnyK_take (i := 1) (v := ?_) rfl (by kernel_rfl) (by kernel_rfl) (by kernel_rfl) (by kernel_rfl) (fun _ _ _ h => h) (Or.inl ⟨by rfl, ?_⟩) hS ?_
  rotate_left
  · intro w0 hS0; obtain ⟨q0, q1, q2, q3⟩ := hS0; go_simp; try with_reducible rfl
  simp only [Act.put, List.setIfInBounds_toArray, List.set_cons_zero, List.set_cons_succ, List.getElem_toArray, List.getElem_cons_succ, List.getElem_cons_zero]
  refine wpAnyK_take (i := 2) (v := ?_) rfl (by kernel_rfl) (by kernel_rfl) (by kernel_rfl) (by kernel_rfl) (fun _ _ _ h => h) (Or.inl ⟨by rfl, ?_⟩) hS ?_
  rotate_left
  · intro w0 hS0; obtain ⟨q0, q1, q2, q3⟩ := hS0; go_simp; try with_reducible rfl
  simp only [Act.put, List.setIfInBounds_toArray, List.set_cons_zero, List.set_cons_succ, List.getElem_toArray, List.getElem_cons_succ, List.getElem_cons_zero]
  refine wpAnyK_take (i := 4) (v := ?_) rfl (by kernel_rfl) (by kernel_rfl) (by kernel_rfl) (by kernel_rfl) (fun _ _ _ h => h) (Or.inl ⟨by rfl, ?_⟩) hS ?_
  rotate_left
  · intro w0 hS0; obtain ⟨q0, q1, q2, q3⟩ := hS0; go_simp; try with_reducible rfl
  simp only [Act.put, List.setIfInBounds_toArray, List.set_cons_zero, List.set_cons_succ, List.getElem_toArray, List.getElem_cons_succ, List.getElem_cons_zero]
  refine wpAnyK_take (i := 5) (v := ?_) rfl (by kernel_rfl) (by kernel_rfl) (by kernel_rfl) (by kernel_rfl) (fun _ _ _ h => h) (Or.inl ⟨by rfl, ?_⟩) hS ?_
  rotate_left
  · intro w0 hS0; obtain ⟨q0, q1, q2, q3⟩ := hS0; go_simp; try with_reducible rfl
  simp only [Act.put, List.setIfInBounds_toArray, List.set_cons_zero, List.set_cons_succ, List.getElem_toArray, List.getElem_cons_succ, List.getElem_cons_zero]
  refine wpAnyK_take (i := 6) (v := ?_) rfl (by kernel_rfl) (by kernel_rfl) (by kernel_rfl) (by kernel_rfl) (fun _ _ _ h => h) (Or.inl ⟨by rfl, ?_⟩) hS ?_
  rotate_left
  · intro w0 hS0; obtain ⟨q0, q1, q2, q3⟩ := hS0; go_simp; try with_reducible rfl
  simp only [Act.put, List.setIfInBounds_toArray, List.set_cons_zero, List.set_cons_succ, List.getElem_toArray, List.getElem_cons_succ, List.getElem_cons_zero]
  clear hS
  refine wpAnyK_one (i := 3) rfl (by kernel_rfl) rfl ?_
  go_simp
  refine HO.out.mono ?_
  rintro e w1 ⟨y, m1, rfl, h1, n1, o1⟩
  obtain ⟨g1, mid, ha, hx, _⟩ := HT.out.fst o1
  simp only at ha hx
  subst hx
  have hb1 : m1 w.heap.size = some (.cells #[.int .i64 3, .string nm, .string to, .int .i64 id, .int .i64 n, bv] 28) := mid.fr.keep _ _ HB.out (fun hp => HKN.out _ (.inl hp) rfl)
  have c1 : w1.cell? ⟨w.heap.size, 1, none⟩ = some (.string nm) := by rw [h1.cell hb1]; rfl
  have c2 : w1.cell? ⟨w.heap.size, 2, none⟩ = some (.string to) := by rw [h1.cell hb1]; rfl
  have c3 : w1.cell? ⟨w.heap.size, 3, none⟩ = some (.int .i64 id) := by rw [h1.cell hb1]; rfl
  have c4 : w1.cell? ⟨w.heap.size, 4, none⟩ = some (.int .i64 n) := by rw [h1.cell hb1]; rfl
  have c5 : w1.cell? ⟨w.heap.size, 5, none⟩ = some bv := by rw [h1.cell hb1]; rfl
  have blt := h1.lt hb1
  have N1 := Lib.hid (N0.out.drew.trans n1)
  have H1 := Lib.hid h1
  have MID := Lib.hid mid
  have HA := Lib.hid ha
  clear h1 n1 o1 mid ha HO hb1
  refine ⟨⟨c1, c2, c3, c4⟩, ?_⟩
  clear c1 c2 c3 c4 c5 blt
  refine wpAnyK_one (i := 7) rfl (by kernel_rfl) rfl ?_
  go_simp
  refine (close_ref rb id r w1 m1 H1.out MID.out.rf (by omega)).mono ?_
  rintro e w2 ⟨z, m2, rfl, h2, n2, o2⟩
  rw [HF2.out] at o2
  obtain ⟨r2, t2, fr, hz, _, fr2⟩ := MID.out.snd o2 HA.out
  simp only at hz
  subst hz
  have hb2 : m2 w.heap.size = some (.cells #[.int .i64 3, .string nm, .string to, .int .i64 id, .int .i64 n, bv] 28) := fr.keep _ _ HB.out (fun hp => HKN.out _ hp rfl)
  have R := Lib.hid (show DoesR w m sb rb g r a1 (.returned (.bool true)) w2 from ⟨m2, g1, r2, rfl, h2, N1.out.trans n2, t2, HA.out, FR0.out.trans fr⟩)
  have hS2 : (fun w' : World => w'.cell? ⟨w.heap.size, 1, none⟩ = some (.string nm) ∧ w'.cell? ⟨w.heap.size, 2, none⟩ = some (.string to) ∧ w'.cell? ⟨w.heap.size, 3, none⟩ = some (.int .i64 id) ∧ w'.cell? ⟨w.heap.size, 4, none⟩ = some (.int .i64 n)) w2 := by
    refine ⟨?_, ?_, ?_, ?_⟩ <;> (rw [h2.cell hb2]; rfl)
  refine ⟨hS2, ?_⟩
  clear h2 n2 o2 t2 fr fr2 hb2
  refine wpAnyK_one (i := 8) rfl (by kernel_rfl) rfl ?_
  go_simp
  clear hS2
  refine wpAnyK_one (i := 9) rfl (by kernel_rfl) rfl ?_
  go_simp
  refine wpAnyK_done (by kernel_rfl) ?_ _
  go_wp2_with fail
  go_ret
  exact R.out

set_option maxHeartbeats 2000000 in
set_option maxRecDepth 100000 in
theorem does_delete (sb rb : Nat) (nm to : ByteArray) (id n : Int) (bv : Value) (bs : List UInt8) (g : G) (r : RG) (w : World) (m : Mem) (hm : Has w m) (h : Two m sb rb g r) (hG : GlobOk m) (h0 : ¬ PP sb rb g r 0) (hn : g.n ≤ 9998) :
    Calls Tryz.prog 20 #[.pointer (some ⟨sb, 0, none⟩), .pointer (some ⟨rb, 0, none⟩), .agg #[.int .i64 4, .string nm, .string to, .int .i64 id, .int .i64 n, bv]] w (DoesR w m sb rb g r (g.abs.deleteF nm).1) := by
  have hfr := hm.fresh (Nat.le_refl w.heap.size)
  have L := Mem.le_set m (.cells #[.int .i64 4, .string nm, .string to, .int .i64 id, .int .i64 n, bv] 28) hfr
  have HM := Lib.hid (hm.alloc (.cells #[.int .i64 4, .string nm, .string to, .int .i64 id, .int .i64 n, bv] 28))
  have hkn : ∀ b, PP sb rb g r b → b ≠ w.heap.size := fun b hb e => by
    obtain ⟨o, ho⟩ := h.known hb
    rw [e, hfr] at ho; cases ho
  have h' := h.le L
  have hb : (m.set w.heap.size (.cells #[.int .i64 4, .string nm, .string to, .int .i64 id, .int .i64 n, bv] 28)) w.heap.size = some (.cells #[.int .i64 4, .string nm, .string to, .int .i64 id, .int .i64 n, bv] 28) := Mem.set_same _ _ _
  have hG' := hG.le L
  have FR0 := Lib.hid (Fr.of_le L (PP sb rb g r))
  obtain ⟨m', hm'⟩ : ∃ m', m.set w.heap.size (.cells #[.int .i64 4, .string nm, .string to, .int .i64 id, .int .i64 n, bv] 28) = m' := ⟨_, rfl⟩
  rw [hm'] at HM FR0
  have HT := Lib.hid h'
  rw [hm'] at HT
  have HB := Lib.hid hb
  rw [hm'] at HB
  have HKN := Lib.hid hkn
  rw [hm'] at hG' L
  have n0 : Env w (w.alloc (.cells #[.int .i64 4, .string nm, .string to, .int .i64 id, .int .i64 n, bv] 28)) := (Env.refl w).alloc _
  have N0 := Lib.hid n0
  have HO := Lib.hid (delete_any sb nm g _ m' HM.out.drew HT.out.st hG' (fun x => h0 (.inl x)) (by omega))
  obtain ⟨F, hF⟩ : ∃ F, g.abs.deleteF nm = F := ⟨_, rfl⟩
  have hF2 : r.abs.deleteF nm = F := by rw [h.eq]; exact hF
  rw [hF] at HO
  rw [hF]
  have HF2 := Lib.hid hF2
  have hn2 : r.n ≤ 9998 := by rw [h.n]; exact hn
  clear hm h hG h0 hF hF2 h' hb hm' hkn n0 hfr L hG'
  obtain ⟨a1, x, i⟩ := F
  go_enter Tryz.func20, Tryz.ntmps20
  go_wp2_with fail
  refine wp_region_K 9 (fun w' => w'.cell? ⟨w.heap.size, 1, none⟩ = some (.string nm) ∧ w'.cell? ⟨w.heap.size, 2, none⟩ = some (.string to) ∧ w'.cell? ⟨w.heap.size, 3, none⟩ = some (.int .i64 id) ∧ w'.cell? ⟨w.heap.size, 4, none⟩ = some (.int .i64 n)) (by kernel_rfl) ?_
  have hS : (fun w' : World => w'.cell? ⟨w.heap.size, 1, none⟩ = some (.string nm) ∧ w'.cell? ⟨w.heap.size, 2, none⟩ = some (.string to) ∧ w'.cell? ⟨w.heap.size, 3, none⟩ = some (.int .i64 id) ∧ w'.cell? ⟨w.heap.size, 4, none⟩ = some (.int .i64 n)) (w.alloc (.cells #[.int .i64 4, .string nm, .string to, .int .i64 id, .int .i64 n, bv] 28)).drew := by
    refine ⟨?_, ?_, ?_, ?_⟩ <;> (rw [HM.out.drew.cell HB.out]; rfl)
  refine wpAnyK_take (i := 0) (v := ?_) rfl (by kernel_rfl) (by kernel_rfl) (by kernel_rfl) (by kernel_rfl) (fun _ _ _ h => h) (Or.inl ⟨by rfl, ?_⟩) hS ?_
  rotate_left
  · intro w0 hS0; obtain ⟨q0, q1, q2, q3⟩ := hS0; go_simp; try with_reducible rfl
  simp only [Act.put, List.setIfInBounds_toArray, List.set_cons_zero, List.set_cons_succ, List.getElem_toArray, List.getElem_cons_succ, List.getElem_cons_zero]
  refine wpAnyK_take (i := 1) (v := ?_) rfl (by kernel_rfl) (by kernel_rfl) (by kernel_rfl) (by kernel_rfl) (fun _ _ _ h => h) (Or.inl ⟨by rfl, ?_⟩) hS ?_
  rotate_left
  · intro w0 hS0; obtain ⟨q0, q1, q2, q3⟩ := hS0; go_simp; try with_reducible rfl
  simp only [Act.put, List.setIfInBounds_toArray, List.set_cons_zero, List.set_cons_succ, List.getElem_toArray, List.getElem_cons_succ, List.getElem_cons_zero]
  refine wpAnyK_take (i := 2) (v := ?_) rfl (by kernel_rfl) (by kernel_rfl) (by kernel_rfl) (by kernel_rfl) (fun _ _ _ h => h) (Or.inl ⟨by rfl, ?_⟩) hS ?_
  rotate_left
  · intro w0 hS0; obtain ⟨q0, q1, q2, q3⟩ := hS0; go_simp; try with_reducible rfl
  simp only [Act.put, List.setIfInBounds_toArray, List.set_cons_zero, List.set_cons_succ, List.getElem_toArray, List.getElem_cons_succ, List.getElem_cons_zero]
  refine wpAnyK_take (i := 4) (v := ?_) rfl (by kernel_rfl) (by kernel_rfl) (by kernel_rfl) (by kernel_rfl) (fun _ _ _ h => h) (Or.inl ⟨by rfl, ?_⟩) hS ?_
  rotate_left
  · intro w0 hS0; obtain ⟨q0, q1, q2, q3⟩ := hS0; go_simp; try with_reducible rfl
  simp only [Act.put, List.setIfInBounds_toArray, List.set_cons_zero, List.set_cons_succ, List.getElem_toArray, List.getElem_cons_succ, List.getElem_cons_zero]
  refine wpAnyK_take (i := 5) (v := ?_) rfl (by kernel_rfl) (by kernel_rfl) (by kernel_rfl) (by kernel_rfl) (fun _ _ _ h => h) (Or.inl ⟨by rfl, ?_⟩) hS ?_
  rotate_left
  · intro w0 hS0; obtain ⟨q0, q1, q2, q3⟩ := hS0; go_simp; try with_reducible rfl
  simp only [Act.put, List.setIfInBounds_toArray, List.set_cons_zero, List.set_cons_succ, List.getElem_toArray, List.getElem_cons_succ, List.getElem_cons_zero]
  refine wpAnyK_take (i := 6) (v := ?_) rfl (by kernel_rfl) (by kernel_rfl) (by kernel_rfl) (by kernel_rfl) (fun _ _ _ h => h) (Or.inl ⟨by rfl, ?_⟩) hS ?_
  rotate_left
  · intro w0 hS0; obtain ⟨q0, q1, q2, q3⟩ := hS0; go_simp; try with_reducible rfl
  simp only [Act.put, List.setIfInBounds_toArray, List.set_cons_zero, List.set_cons_succ, List.getElem_toArray, List.getElem_cons_succ, List.getElem_cons_zero]
  clear hS
  refine wpAnyK_one (i := 3) rfl (by kernel_rfl) rfl ?_
  go_simp
  refine HO.out.mono ?_
  rintro e w1 ⟨y, m1, rfl, h1, n1, o1⟩
  obtain ⟨g1, mid, ha, hx, _⟩ := HT.out.fst o1
  simp only at ha hx
  subst hx
  have hb1 : m1 w.heap.size = some (.cells #[.int .i64 4, .string nm, .string to, .int .i64 id, .int .i64 n, bv] 28) := mid.fr.keep _ _ HB.out (fun hp => HKN.out _ (.inl hp) rfl)
  have c1 : w1.cell? ⟨w.heap.size, 1, none⟩ = some (.string nm) := by rw [h1.cell hb1]; rfl
  have c2 : w1.cell? ⟨w.heap.size, 2, none⟩ = some (.string to) := by rw [h1.cell hb1]; rfl
  have c3 : w1.cell? ⟨w.heap.size, 3, none⟩ = some (.int .i64 id) := by rw [h1.cell hb1]; rfl
  have c4 : w1.cell? ⟨w.heap.size, 4, none⟩ = some (.int .i64 n) := by rw [h1.cell hb1]; rfl
  have c5 : w1.cell? ⟨w.heap.size, 5, none⟩ = some bv := by rw [h1.cell hb1]; rfl
  have blt := h1.lt hb1
  have N1 := Lib.hid (N0.out.drew.trans n1)
  have H1 := Lib.hid h1
  have MID := Lib.hid mid
  have HA := Lib.hid ha
  clear h1 n1 o1 mid ha HO hb1
  refine ⟨⟨c1, c2, c3, c4⟩, ?_⟩
  clear c1 c2 c3 c4 c5 blt
  refine wpAnyK_one (i := 7) rfl (by kernel_rfl) rfl ?_
  go_simp
  refine (delete_ref rb nm r w1 m1 H1.out MID.out.rf (by omega)).mono ?_
  rintro e w2 ⟨z, m2, rfl, h2, n2, o2⟩
  rw [HF2.out] at o2
  obtain ⟨r2, t2, fr, hz, _, fr2⟩ := MID.out.snd o2 HA.out
  simp only at hz
  subst hz
  have hb2 : m2 w.heap.size = some (.cells #[.int .i64 4, .string nm, .string to, .int .i64 id, .int .i64 n, bv] 28) := fr.keep _ _ HB.out (fun hp => HKN.out _ hp rfl)
  have R := Lib.hid (show DoesR w m sb rb g r a1 (.returned (.bool true)) w2 from ⟨m2, g1, r2, rfl, h2, N1.out.trans n2, t2, HA.out, FR0.out.trans fr⟩)
  have hS2 : (fun w' : World => w'.cell? ⟨w.heap.size, 1, none⟩ = some (.string nm) ∧ w'.cell? ⟨w.heap.size, 2, none⟩ = some (.string to) ∧ w'.cell? ⟨w.heap.size, 3, none⟩ = some (.int .i64 id) ∧ w'.cell? ⟨w.heap.size, 4, none⟩ = some (.int .i64 n)) w2 := by
    refine ⟨?_, ?_, ?_, ?_⟩ <;> (rw [h2.cell hb2]; rfl)
  refine ⟨hS2, ?_⟩
  clear h2 n2 o2 t2 fr fr2 hb2
  refine wpAnyK_one (i := 8) rfl (by kernel_rfl) rfl ?_
  go_simp
  clear hS2
  refine wpAnyK_one (i := 9) rfl (by kernel_rfl) rfl ?_
  go_simp
  refine wpAnyK_done (by kernel_rfl) ?_ _
  go_wp2_with fail
  go_ret
  exact R.out

set_option maxHeartbeats 2000000 in
set_option maxRecDepth 100000 in
theorem does_rename (sb rb : Nat) (nm to : ByteArray) (id n : Int) (bv : Value) (bs : List UInt8) (g : G) (r : RG) (w : World) (m : Mem) (hm : Has w m) (h : Two m sb rb g r) (hG : GlobOk m) (h0 : ¬ PP sb rb g r 0) (hn : g.n ≤ 9998) :
    Calls Tryz.prog 20 #[.pointer (some ⟨sb, 0, none⟩), .pointer (some ⟨rb, 0, none⟩), .agg #[.int .i64 5, .string nm, .string to, .int .i64 id, .int .i64 n, bv]] w (DoesR w m sb rb g r (g.abs.renF nm to).1) := by
  have hfr := hm.fresh (Nat.le_refl w.heap.size)
  have L := Mem.le_set m (.cells #[.int .i64 5, .string nm, .string to, .int .i64 id, .int .i64 n, bv] 28) hfr
  have HM := Lib.hid (hm.alloc (.cells #[.int .i64 5, .string nm, .string to, .int .i64 id, .int .i64 n, bv] 28))
  have hkn : ∀ b, PP sb rb g r b → b ≠ w.heap.size := fun b hb e => by
    obtain ⟨o, ho⟩ := h.known hb
    rw [e, hfr] at ho; cases ho
  have h' := h.le L
  have hb : (m.set w.heap.size (.cells #[.int .i64 5, .string nm, .string to, .int .i64 id, .int .i64 n, bv] 28)) w.heap.size = some (.cells #[.int .i64 5, .string nm, .string to, .int .i64 id, .int .i64 n, bv] 28) := Mem.set_same _ _ _
  have hG' := hG.le L
  have FR0 := Lib.hid (Fr.of_le L (PP sb rb g r))
  obtain ⟨m', hm'⟩ : ∃ m', m.set w.heap.size (.cells #[.int .i64 5, .string nm, .string to, .int .i64 id, .int .i64 n, bv] 28) = m' := ⟨_, rfl⟩
  rw [hm'] at HM FR0
  have HT := Lib.hid h'
  rw [hm'] at HT
  have HB := Lib.hid hb
  rw [hm'] at HB
  have HKN := Lib.hid hkn
  rw [hm'] at hG' L
  have n0 : Env w (w.alloc (.cells #[.int .i64 5, .string nm, .string to, .int .i64 id, .int .i64 n, bv] 28)) := (Env.refl w).alloc _
  have N0 := Lib.hid n0
  have HO := Lib.hid (rename_any sb nm to g _ m' HM.out.drew HT.out.st hG' (fun x => h0 (.inl x)) (by omega))
  obtain ⟨F, hF⟩ : ∃ F, g.abs.renF nm to = F := ⟨_, rfl⟩
  have hF2 : r.abs.renF nm to = F := by rw [h.eq]; exact hF
  rw [hF] at HO
  rw [hF]
  have HF2 := Lib.hid hF2
  have hn2 : r.n ≤ 9998 := by rw [h.n]; exact hn
  clear hm h hG h0 hF hF2 h' hb hm' hkn n0 hfr L hG'
  obtain ⟨a1, x, i⟩ := F
  go_enter Tryz.func20, Tryz.ntmps20
  go_wp2_with fail
  refine wp_region_K 13 (fun w' => w'.cell? ⟨w.heap.size, 1, none⟩ = some (.string nm) ∧ w'.cell? ⟨w.heap.size, 2, none⟩ = some (.string to) ∧ w'.cell? ⟨w.heap.size, 3, none⟩ = some (.int .i64 id) ∧ w'.cell? ⟨w.heap.size, 4, none⟩ = some (.int .i64 n)) (by kernel_rfl) ?_
  have hS : (fun w' : World => w'.cell? ⟨w.heap.size, 1, none⟩ = some (.string nm) ∧ w'.cell? ⟨w.heap.size, 2, none⟩ = some (.string to) ∧ w'.cell? ⟨w.heap.size, 3, none⟩ = some (.int .i64 id) ∧ w'.cell? ⟨w.heap.size, 4, none⟩ = some (.int .i64 n)) (w.alloc (.cells #[.int .i64 5, .string nm, .string to, .int .i64 id, .int .i64 n, bv] 28)).drew := by
    refine ⟨?_, ?_, ?_, ?_⟩ <;> (rw [HM.out.drew.cell HB.out]; rfl)
  refine wpAnyK_take (i := 0) (v := ?_) rfl (by kernel_rfl) (by kernel_rfl) (by kernel_rfl) (by kernel_rfl) (fun _ _ _ h => h) (Or.inl ⟨by rfl, ?_⟩) hS ?_
  rotate_left
  · intro w0 hS0; obtain ⟨q0, q1, q2, q3⟩ := hS0; go_simp; try with_reducible rfl
  simp only [Act.put, List.setIfInBounds_toArray, List.set_cons_zero, List.set_cons_succ, List.getElem_toArray, List.getElem_cons_succ, List.getElem_cons_zero]
  refine wpAnyK_take (i := 1) (v := ?_) rfl (by kernel_rfl) (by kernel_rfl) (by kernel_rfl) (by kernel_rfl) (fun _ _ _ h => h) (Or.inl ⟨by rfl, ?_⟩) hS ?_
  rotate_left
  · intro w0 hS0; obtain ⟨q0, q1, q2, q3⟩ := hS0; go_simp; try with_reducible rfl
  simp only [Act.put, List.setIfInBounds_toArray, List.set_cons_zero, List.set_cons_succ, List.getElem_toArray, List.getElem_cons_succ, List.getElem_cons_zero]
  refine wpAnyK_take (i := 2) (v := ?_) rfl (by kernel_rfl) (by kernel_rfl) (by kernel_rfl) (by kernel_rfl) (fun _ _ _ h => h) (Or.inl ⟨by rfl, ?_⟩) hS ?_
  rotate_left
  · intro w0 hS0; obtain ⟨q0, q1, q2, q3⟩ := hS0; go_simp; try with_reducible rfl
  simp only [Act.put, List.setIfInBounds_toArray, List.set_cons_zero, List.set_cons_succ, List.getElem_toArray, List.getElem_cons_succ, List.getElem_cons_zero]
  refine wpAnyK_take (i := 3) (v := ?_) rfl (by kernel_rfl) (by kernel_rfl) (by kernel_rfl) (by kernel_rfl) (fun _ _ _ h => h) (Or.inl ⟨by rfl, ?_⟩) hS ?_
  rotate_left
  · intro w0 hS0; obtain ⟨q0, q1, q2, q3⟩ := hS0; go_simp; try with_reducible rfl
  simp only [Act.put, List.setIfInBounds_toArray, List.set_cons_zero, List.set_cons_succ, List.getElem_toArray, List.getElem_cons_succ, List.getElem_cons_zero]
  refine wpAnyK_take (i := 4) (v := ?_) rfl (by kernel_rfl) (by kernel_rfl) (by kernel_rfl) (by kernel_rfl) (fun _ _ _ h => h) (Or.inl ⟨by rfl, ?_⟩) hS ?_
  rotate_left
  · intro w0 hS0; obtain ⟨q0, q1, q2, q3⟩ := hS0; go_simp; try with_reducible rfl
  simp only [Act.put, List.setIfInBounds_toArray, List.set_cons_zero, List.set_cons_succ, List.getElem_toArray, List.getElem_cons_succ, List.getElem_cons_zero]
  refine wpAnyK_take (i := 6) (v := ?_) rfl (by kernel_rfl) (by kernel_rfl) (by kernel_rfl) (by kernel_rfl) (fun _ _ _ h => h) (Or.inl ⟨by rfl, ?_⟩) hS ?_
  rotate_left
  · intro w0 hS0; obtain ⟨q0, q1, q2, q3⟩ := hS0; go_simp; try with_reducible rfl
  simp only [Act.put, List.setIfInBounds_toArray, List.set_cons_zero, List.set_cons_succ, List.getElem_toArray, List.getElem_cons_succ, List.getElem_cons_zero]
  refine wpAnyK_take (i := 7) (v := ?_) rfl (by kernel_rfl) (by kernel_rfl) (by kernel_rfl) (by kernel_rfl) (fun _ _ _ h => h) (Or.inl ⟨by rfl, ?_⟩) hS ?_
  rotate_left
  · intro w0 hS0; obtain ⟨q0, q1, q2, q3⟩ := hS0; go_simp; try with_reducible rfl
  simp only [Act.put, List.setIfInBounds_toArray, List.set_cons_zero, List.set_cons_succ, List.getElem_toArray, List.getElem_cons_succ, List.getElem_cons_zero]
  refine wpAnyK_take (i := 8) (v := ?_) rfl (by kernel_rfl) (by kernel_rfl) (by kernel_rfl) (by kernel_rfl) (fun _ _ _ h => h) (Or.inl ⟨by rfl, ?_⟩) hS ?_
  rotate_left
  · intro w0 hS0; obtain ⟨q0, q1, q2, q3⟩ := hS0; go_simp; try with_reducible rfl
  simp only [Act.put, List.setIfInBounds_toArray, List.set_cons_zero, List.set_cons_succ, List.getElem_toArray, List.getElem_cons_succ, List.getElem_cons_zero]
  refine wpAnyK_take (i := 9) (v := ?_) rfl (by kernel_rfl) (by kernel_rfl) (by kernel_rfl) (by kernel_rfl) (fun _ _ _ h => h) (Or.inl ⟨by rfl, ?_⟩) hS ?_
  rotate_left
  · intro w0 hS0; obtain ⟨q0, q1, q2, q3⟩ := hS0; go_simp; try with_reducible rfl
  simp only [Act.put, List.setIfInBounds_toArray, List.set_cons_zero, List.set_cons_succ, List.getElem_toArray, List.getElem_cons_succ, List.getElem_cons_zero]
  refine wpAnyK_take (i := 10) (v := ?_) rfl (by kernel_rfl) (by kernel_rfl) (by kernel_rfl) (by kernel_rfl) (fun _ _ _ h => h) (Or.inl ⟨by rfl, ?_⟩) hS ?_
  rotate_left
  · intro w0 hS0; obtain ⟨q0, q1, q2, q3⟩ := hS0; go_simp; try with_reducible rfl
  simp only [Act.put, List.setIfInBounds_toArray, List.set_cons_zero, List.set_cons_succ, List.getElem_toArray, List.getElem_cons_succ, List.getElem_cons_zero]
  clear hS
  refine wpAnyK_one (i := 5) rfl (by kernel_rfl) rfl ?_
  go_simp
  refine HO.out.mono ?_
  rintro e w1 ⟨y, m1, rfl, h1, n1, o1⟩
  obtain ⟨g1, mid, ha, hx, _⟩ := HT.out.fst o1
  simp only at ha hx
  subst hx
  have hb1 : m1 w.heap.size = some (.cells #[.int .i64 5, .string nm, .string to, .int .i64 id, .int .i64 n, bv] 28) := mid.fr.keep _ _ HB.out (fun hp => HKN.out _ (.inl hp) rfl)
  have c1 : w1.cell? ⟨w.heap.size, 1, none⟩ = some (.string nm) := by rw [h1.cell hb1]; rfl
  have c2 : w1.cell? ⟨w.heap.size, 2, none⟩ = some (.string to) := by rw [h1.cell hb1]; rfl
  have c3 : w1.cell? ⟨w.heap.size, 3, none⟩ = some (.int .i64 id) := by rw [h1.cell hb1]; rfl
  have c4 : w1.cell? ⟨w.heap.size, 4, none⟩ = some (.int .i64 n) := by rw [h1.cell hb1]; rfl
  have c5 : w1.cell? ⟨w.heap.size, 5, none⟩ = some bv := by rw [h1.cell hb1]; rfl
  have blt := h1.lt hb1
  have N1 := Lib.hid (N0.out.drew.trans n1)
  have H1 := Lib.hid h1
  have MID := Lib.hid mid
  have HA := Lib.hid ha
  clear h1 n1 o1 mid ha HO hb1
  refine ⟨⟨c1, c2, c3, c4⟩, ?_⟩
  clear c1 c2 c3 c4 c5 blt
  refine wpAnyK_one (i := 11) rfl (by kernel_rfl) rfl ?_
  go_simp
  refine (rename_ref rb nm to r w1 m1 H1.out MID.out.rf (by omega)).mono ?_
  rintro e w2 ⟨z, m2, rfl, h2, n2, o2⟩
  rw [HF2.out] at o2
  obtain ⟨r2, t2, fr, hz, _, fr2⟩ := MID.out.snd o2 HA.out
  simp only at hz
  subst hz
  have hb2 : m2 w.heap.size = some (.cells #[.int .i64 5, .string nm, .string to, .int .i64 id, .int .i64 n, bv] 28) := fr.keep _ _ HB.out (fun hp => HKN.out _ hp rfl)
  have R := Lib.hid (show DoesR w m sb rb g r a1 (.returned (.bool true)) w2 from ⟨m2, g1, r2, rfl, h2, N1.out.trans n2, t2, HA.out, FR0.out.trans fr⟩)
  have hS2 : (fun w' : World => w'.cell? ⟨w.heap.size, 1, none⟩ = some (.string nm) ∧ w'.cell? ⟨w.heap.size, 2, none⟩ = some (.string to) ∧ w'.cell? ⟨w.heap.size, 3, none⟩ = some (.int .i64 id) ∧ w'.cell? ⟨w.heap.size, 4, none⟩ = some (.int .i64 n)) w2 := by
    refine ⟨?_, ?_, ?_, ?_⟩ <;> (rw [h2.cell hb2]; rfl)
  refine ⟨hS2, ?_⟩
  clear h2 n2 o2 t2 fr fr2 hb2
  refine wpAnyK_one (i := 12) rfl (by kernel_rfl) rfl ?_
  go_simp
  clear hS2
  refine wpAnyK_one (i := 13) rfl (by kernel_rfl) rfl ?_
  go_simp
  refine wpAnyK_done (by kernel_rfl) ?_ _
  go_wp2_with fail
  go_ret
  exact R.out

set_option maxHeartbeats 2000000 in
set_option maxRecDepth 100000 in
theorem does_seek (sb rb : Nat) (nm to : ByteArray) (id n : Int) (bv : Value) (bs : List UInt8) (g : G) (r : RG) (w : World) (m : Mem) (hm : Has w m) (h : Two m sb rb g r) (hG : GlobOk m) (h0 : ¬ PP sb rb g r 0) (hn : g.n ≤ 9998) :
    Calls Tryz.prog 20 #[.pointer (some ⟨sb, 0, none⟩), .pointer (some ⟨rb, 0, none⟩), .agg #[.int .i64 9, .string nm, .string to, .int .i64 id, .int .i64 n, bv]] w (DoesR w m sb rb g r (g.abs.withA id () (seekF (id - 1).toNat n)).1) := by
  have hfr := hm.fresh (Nat.le_refl w.heap.size)
  have L := Mem.le_set m (.cells #[.int .i64 9, .string nm, .string to, .int .i64 id, .int .i64 n, bv] 28) hfr
  have HM := Lib.hid (hm.alloc (.cells #[.int .i64 9, .string nm, .string to, .int .i64 id, .int .i64 n, bv] 28))
  have hkn : ∀ b, PP sb rb g r b → b ≠ w.heap.size := fun b hb e => by
    obtain ⟨o, ho⟩ := h.known hb
    rw [e, hfr] at ho; cases ho
  have h' := h.le L
  have hb : (m.set w.heap.size (.cells #[.int .i64 9, .string nm, .string to, .int .i64 id, .int .i64 n, bv] 28)) w.heap.size = some (.cells #[.int .i64 9, .string nm, .string to, .int .i64 id, .int .i64 n, bv] 28) := Mem.set_same _ _ _
  have hG' := hG.le L
  have FR0 := Lib.hid (Fr.of_le L (PP sb rb g r))
  obtain ⟨m', hm'⟩ : ∃ m', m.set w.heap.size (.cells #[.int .i64 9, .string nm, .string to, .int .i64 id, .int .i64 n, bv] 28) = m' := ⟨_, rfl⟩
  rw [hm'] at HM FR0
  have HT := Lib.hid h'
  rw [hm'] at HT
  have HB := Lib.hid hb
  rw [hm'] at HB
  have HKN := Lib.hid hkn
  rw [hm'] at hG' L
  have n0 : Env w (w.alloc (.cells #[.int .i64 9, .string nm, .string to, .int .i64 id, .int .i64 n, bv] 28)) := (Env.refl w).alloc _
  have N0 := Lib.hid n0
  have HO := Lib.hid (seek_any sb id n g _ m' HM.out.drew HT.out.st hG' (fun x => h0 (.inl x)) (by omega))
  obtain ⟨F, hF⟩ : ∃ F, g.abs.withA id () (seekF (id - 1).toNat n) = F := ⟨_, rfl⟩
  have hF2 : r.abs.withA id () (seekF (id - 1).toNat n) = F := by rw [h.eq]; exact hF
  rw [hF] at HO
  rw [hF]
  have HF2 := Lib.hid hF2
  have hn2 : r.n ≤ 9998 := by rw [h.n]; exact hn
  clear hm h hG h0 hF hF2 h' hb hm' hkn n0 hfr L hG'
  obtain ⟨a1, x, i⟩ := F
  go_enter Tryz.func20, Tryz.ntmps20
  go_wp2_with fail
  refine wp_region_K 13 (fun w' => w'.cell? ⟨w.heap.size, 1, none⟩ = some (.string nm) ∧ w'.cell? ⟨w.heap.size, 2, none⟩ = some (.string to) ∧ w'.cell? ⟨w.heap.size, 3, none⟩ = some (.int .i64 id) ∧ w'.cell? ⟨w.heap.size, 4, none⟩ = some (.int .i64 n)) (by kernel_rfl) ?_
  have hS : (fun w' : World => w'.cell? ⟨w.heap.size, 1, none⟩ = some (.string nm) ∧ w'.cell? ⟨w.heap.size, 2, none⟩ = some (.string to) ∧ w'.cell? ⟨w.heap.size, 3, none⟩ = some (.int .i64 id) ∧ w'.cell? ⟨w.heap.size, 4, none⟩ = some (.int .i64 n)) (w.alloc (.cells #[.int .i64 9, .string nm, .string to, .int .i64 id, .int .i64 n, bv] 28)).drew := by
    refine ⟨?_, ?_, ?_, ?_⟩ <;> (rw [HM.out.drew.cell HB.out]; rfl)
  refine wpAnyK_take (i := 0) (v := ?_) rfl (by kernel_rfl) (by kernel_rfl) (by kernel_rfl) (by kernel_rfl) (fun _ _ _ h => h) (Or.inl ⟨by rfl, ?_⟩) hS ?_
  rotate_left
  · intro w0 hS0; obtain ⟨q0, q1, q2, q3⟩ := hS0; go_simp; try with_reducible rfl
  simp only [Act.put, List.setIfInBounds_toArray, List.set_cons_zero, List.set_cons_succ, List.getElem_toArray, List.getElem_cons_succ, List.getElem_cons_zero]
  refine wpAnyK_take (i := 1) (v := ?_) rfl (by kernel_rfl) (by kernel_rfl) (by kernel_rfl) (by kernel_rfl) (fun _ _ _ h => h) (Or.inl ⟨by rfl, ?_⟩) hS ?_
  rotate_left
  · intro w0 hS0; obtain ⟨q0, q1, q2, q3⟩ := hS0; go_simp; try with_reducible rfl
  simp only [Act.put, List.setIfInBounds_toArray, List.set_cons_zero, List.set_cons_succ, List.getElem_toArray, List.getElem_cons_succ, List.getElem_cons_zero]
  refine wpAnyK_take (i := 2) (v := ?_) rfl (by kernel_rfl) (by kernel_rfl) (by kernel_rfl) (by kernel_rfl) (fun _ _ _ h => h) (Or.inl ⟨by rfl, ?_⟩) hS ?_
  rotate_left
  · intro w0 hS0; obtain ⟨q0, q1, q2, q3⟩ := hS0; go_simp; try with_reducible rfl
  simp only [Act.put, List.setIfInBounds_toArray, List.set_cons_zero, List.set_cons_succ, List.getElem_toArray, List.getElem_cons_succ, List.getElem_cons_zero]
  refine wpAnyK_take (i := 3) (v := ?_) rfl (by kernel_rfl) (by kernel_rfl) (by kernel_rfl) (by kernel_rfl) (fun _ _ _ h => h) (Or.inl ⟨by rfl, ?_⟩) hS ?_
  rotate_left
  · intro w0 hS0; obtain ⟨q0, q1, q2, q3⟩ := hS0; go_simp; try with_reducible rfl
  simp only [Act.put, List.setIfInBounds_toArray, List.set_cons_zero, List.set_cons_succ, List.getElem_toArray, List.getElem_cons_succ, List.getElem_cons_zero]
  refine wpAnyK_take (i := 4) (v := ?_) rfl (by kernel_rfl) (by kernel_rfl) (by kernel_rfl) (by kernel_rfl) (fun _ _ _ h => h) (Or.inl ⟨by rfl, ?_⟩) hS ?_
  rotate_left
  · intro w0 hS0; obtain ⟨q0, q1, q2, q3⟩ := hS0; go_simp; try with_reducible rfl
  simp only [Act.put, List.setIfInBounds_toArray, List.set_cons_zero, List.set_cons_succ, List.getElem_toArray, List.getElem_cons_succ, List.getElem_cons_zero]
  refine wpAnyK_take (i := 6) (v := ?_) rfl (by kernel_rfl) (by kernel_rfl) (by kernel_rfl) (by kernel_rfl) (fun _ _ _ h => h) (Or.inl ⟨by rfl, ?_⟩) hS ?_
  rotate_left
  · intro w0 hS0; obtain ⟨q0, q1, q2, q3⟩ := hS0; go_simp; try with_reducible rfl
  simp only [Act.put, List.setIfInBounds_toArray, List.set_cons_zero, List.set_cons_succ, List.getElem_toArray, List.getElem_cons_succ, List.getElem_cons_zero]
  refine wpAnyK_take (i := 7) (v := ?_) rfl (by kernel_rfl) (by kernel_rfl) (by kernel_rfl) (by kernel_rfl) (fun _ _ _ h => h) (Or.inl ⟨by rfl, ?_⟩) hS ?_
  rotate_left
  · intro w0 hS0; obtain ⟨q0, q1, q2, q3⟩ := hS0; go_simp; try with_reducible rfl
  simp only [Act.put, List.setIfInBounds_toArray, List.set_cons_zero, List.set_cons_succ, List.getElem_toArray, List.getElem_cons_succ, List.getElem_cons_zero]
  refine wpAnyK_take (i := 8) (v := ?_) rfl (by kernel_rfl) (by kernel_rfl) (by kernel_rfl) (by kernel_rfl) (fun _ _ _ h => h) (Or.inl ⟨by rfl, ?_⟩) hS ?_
  rotate_left
  · intro w0 hS0; obtain ⟨q0, q1, q2, q3⟩ := hS0; go_simp; try with_reducible rfl
  simp only [Act.put, List.setIfInBounds_toArray, List.set_cons_zero, List.set_cons_succ, List.getElem_toArray, List.getElem_cons_succ, List.getElem_cons_zero]
  refine wpAnyK_take (i := 9) (v := ?_) rfl (by kernel_rfl) (by kernel_rfl) (by kernel_rfl) (by kernel_rfl) (fun _ _ _ h => h) (Or.inl ⟨by rfl, ?_⟩) hS ?_
  rotate_left
  · intro w0 hS0; obtain ⟨q0, q1, q2, q3⟩ := hS0; go_simp; try with_reducible rfl
  simp only [Act.put, List.setIfInBounds_toArray, List.set_cons_zero, List.set_cons_succ, List.getElem_toArray, List.getElem_cons_succ, List.getElem_cons_zero]
  refine wpAnyK_take (i := 10) (v := ?_) rfl (by kernel_rfl) (by kernel_rfl) (by kernel_rfl) (by kernel_rfl) (fun _ _ _ h => h) (Or.inl ⟨by rfl, ?_⟩) hS ?_
  rotate_left
  · intro w0 hS0; obtain ⟨q0, q1, q2, q3⟩ := hS0; go_simp; try with_reducible rfl
  simp only [Act.put, List.setIfInBounds_toArray, List.set_cons_zero, List.set_cons_succ, List.getElem_toArray, List.getElem_cons_succ, List.getElem_cons_zero]
  clear hS
  refine wpAnyK_one (i := 5) rfl (by kernel_rfl) rfl ?_
  go_simp
  refine HO.out.mono ?_
  rintro e w1 ⟨y, m1, rfl, h1, n1, o1⟩
  obtain ⟨g1, mid, ha, hx, _⟩ := HT.out.fst o1
  simp only at ha hx
  subst hx
  have hb1 : m1 w.heap.size = some (.cells #[.int .i64 9, .string nm, .string to, .int .i64 id, .int .i64 n, bv] 28) := mid.fr.keep _ _ HB.out (fun hp => HKN.out _ (.inl hp) rfl)
  have c1 : w1.cell? ⟨w.heap.size, 1, none⟩ = some (.string nm) := by rw [h1.cell hb1]; rfl
  have c2 : w1.cell? ⟨w.heap.size, 2, none⟩ = some (.string to) := by rw [h1.cell hb1]; rfl
  have c3 : w1.cell? ⟨w.heap.size, 3, none⟩ = some (.int .i64 id) := by rw [h1.cell hb1]; rfl
  have c4 : w1.cell? ⟨w.heap.size, 4, none⟩ = some (.int .i64 n) := by rw [h1.cell hb1]; rfl
  have c5 : w1.cell? ⟨w.heap.size, 5, none⟩ = some bv := by rw [h1.cell hb1]; rfl
  have blt := h1.lt hb1
  have N1 := Lib.hid (N0.out.drew.trans n1)
  have H1 := Lib.hid h1
  have MID := Lib.hid mid
  have HA := Lib.hid ha
  clear h1 n1 o1 mid ha HO hb1
  refine ⟨⟨c1, c2, c3, c4⟩, ?_⟩
  clear c1 c2 c3 c4 c5 blt
  refine wpAnyK_one (i := 11) rfl (by kernel_rfl) rfl ?_
  go_simp
  refine (seek_ref rb id n r w1 m1 H1.out MID.out.rf (by omega)).mono ?_
  rintro e w2 ⟨z, m2, rfl, h2, n2, o2⟩
  rw [HF2.out] at o2
  obtain ⟨r2, t2, fr, hz, _, fr2⟩ := MID.out.snd o2 HA.out
  simp only at hz
  subst hz
  have hb2 : m2 w.heap.size = some (.cells #[.int .i64 9, .string nm, .string to, .int .i64 id, .int .i64 n, bv] 28) := fr.keep _ _ HB.out (fun hp => HKN.out _ hp rfl)
  have R := Lib.hid (show DoesR w m sb rb g r a1 (.returned (.bool true)) w2 from ⟨m2, g1, r2, rfl, h2, N1.out.trans n2, t2, HA.out, FR0.out.trans fr⟩)
  have hS2 : (fun w' : World => w'.cell? ⟨w.heap.size, 1, none⟩ = some (.string nm) ∧ w'.cell? ⟨w.heap.size, 2, none⟩ = some (.string to) ∧ w'.cell? ⟨w.heap.size, 3, none⟩ = some (.int .i64 id) ∧ w'.cell? ⟨w.heap.size, 4, none⟩ = some (.int .i64 n)) w2 := by
    refine ⟨?_, ?_, ?_, ?_⟩ <;> (rw [h2.cell hb2]; rfl)
  refine ⟨hS2, ?_⟩
  clear h2 n2 o2 t2 fr fr2 hb2
  refine wpAnyK_one (i := 12) rfl (by kernel_rfl) rfl ?_
  go_simp
  clear hS2
  refine wpAnyK_one (i := 13) rfl (by kernel_rfl) rfl ?_
  go_simp
  refine wpAnyK_done (by kernel_rfl) ?_ _
  go_wp2_with fail
  go_ret
  exact R.out

set_option maxHeartbeats 2000000 in
set_option maxRecDepth 100000 in
theorem does_resize (sb rb : Nat) (nm to : ByteArray) (id n : Int) (bv : Value) (bs : List UInt8) (g : G) (r : RG) (w : World) (m : Mem) (hm : Has w m) (h : Two m sb rb g r) (hG : GlobOk m) (h0 : ¬ PP sb rb g r 0) (hn : g.n ≤ 9998) :
    Calls Tryz.prog 20 #[.pointer (some ⟨sb, 0, none⟩), .pointer (some ⟨rb, 0, none⟩), .agg #[.int .i64 10, .string nm, .string to, .int .i64 id, .int .i64 n, bv]] w (DoesR w m sb rb g r (g.abs.withA id () (resizeF n)).1) := by
  have hfr := hm.fresh (Nat.le_refl w.heap.size)
  have L := Mem.le_set m (.cells #[.int .i64 10, .string nm, .string to, .int .i64 id, .int .i64 n, bv] 28) hfr
  have HM := Lib.hid (hm.alloc (.cells #[.int .i64 10, .string nm, .string to, .int .i64 id, .int .i64 n, bv] 28))
  have hkn : ∀ b, PP sb rb g r b → b ≠ w.heap.size := fun b hb e => by
    obtain ⟨o, ho⟩ := h.known hb
    rw [e, hfr] at ho; cases ho
  have h' := h.le L
  have hb : (m.set w.heap.size (.cells #[.int .i64 10, .string nm, .string to, .int .i64 id, .int .i64 n, bv] 28)) w.heap.size = some (.cells #[.int .i64 10, .string nm, .string to, .int .i64 id, .int .i64 n, bv] 28) := Mem.set_same _ _ _
  have hG' := hG.le L
  have FR0 := Lib.hid (Fr.of_le L (PP sb rb g r))
  obtain ⟨m', hm'⟩ : ∃ m', m.set w.heap.size (.cells #[.int .i64 10, .string nm, .string to, .int .i64 id, .int .i64 n, bv] 28) = m' := ⟨_, rfl⟩
  rw [hm'] at HM FR0
  have HT := Lib.hid h'
  rw [hm'] at HT
  have HB := Lib.hid hb
  rw [hm'] at HB
  have HKN := Lib.hid hkn
  rw [hm'] at hG' L
  have n0 : Env w (w.alloc (.cells #[.int .i64 10, .string nm, .string to, .int .i64 id, .int .i64 n, bv] 28)) := (Env.refl w).alloc _
  have N0 := Lib.hid n0
  have HO := Lib.hid (resize_any sb id n g _ m' HM.out.drew HT.out.st hG' (fun x => h0 (.inl x)) (by omega))
  obtain ⟨F, hF⟩ : ∃ F, g.abs.withA id () (resizeF n) = F := ⟨_, rfl⟩
  have hF2 : r.abs.withA id () (resizeF n) = F := by rw [h.eq]; exact hF
  rw [hF] at HO
  rw [hF]
  have HF2 := Lib.hid hF2
  have hn2 : r.n ≤ 9998 := by rw [h.n]; exact hn
  clear hm h hG h0 hF hF2 h' hb hm' hkn n0 hfr L hG'
  obtain ⟨a1, x, i⟩ := F
  go_enter Tryz.func20, Tryz.ntmps20
  go_wp2_with fail
  refine wp_region_K 13 (fun w' => w'.cell? ⟨w.heap.size, 1, none⟩ = some (.string nm) ∧ w'.cell? ⟨w.heap.size, 2, none⟩ = some (.string to) ∧ w'.cell? ⟨w.heap.size, 3, none⟩ = some (.int .i64 id) ∧ w'.cell? ⟨w.heap.size, 4, none⟩ = some (.int .i64 n)) (by kernel_rfl) ?_
  have hS : (fun w' : World => w'.cell? ⟨w.heap.size, 1, none⟩ = some (.string nm) ∧ w'.cell? ⟨w.heap.size, 2, none⟩ = some (.string to) ∧ w'.cell? ⟨w.heap.size, 3, none⟩ = some (.int .i64 id) ∧ w'.cell? ⟨w.heap.size, 4, none⟩ = some (.int .i64 n)) (w.alloc (.cells #[.int .i64 10, .string nm, .string to, .int .i64 id, .int .i64 n, bv] 28)).drew := by
    refine ⟨?_, ?_, ?_, ?_⟩ <;> (rw [HM.out.drew.cell HB.out]; rfl)
  refine wpAnyK_take (i := 0) (v := ?_) rfl (by kernel_rfl) (by kernel_rfl) (by kernel_rfl) (by kernel_rfl) (fun _ _ _ h => h) (Or.inl ⟨by rfl, ?_⟩) hS ?_
  rotate_left
  · intro w0 hS0; obtain ⟨q0, q1, q2, q3⟩ := hS0; go_simp; try with_reducible rfl
  simp only [Act.put, List.setIfInBounds_toArray, List.set_cons_zero, List.set_cons_succ, List.getElem_toArray, List.getElem_cons_succ, List.getElem_cons_zero]
  refine wpAnyK_take (i := 1) (v := ?_) rfl (by kernel_rfl) (by kernel_rfl) (by kernel_rfl) (by kernel_rfl) (fun _ _ _ h => h) (Or.inl ⟨by rfl, ?_⟩) hS ?_
  rotate_left
  · intro w0 hS0; obtain ⟨q0, q1, q2, q3⟩ := hS0; go_simp; try with_reducible rfl
  simp only [Act.put, List.setIfInBounds_toArray, List.set_cons_zero, List.set_cons_succ, List.getElem_toArray, List.getElem_cons_succ, List.getElem_cons_zero]
  refine wpAnyK_take (i := 2) (v := ?_) rfl (by kernel_rfl) (by kernel_rfl) (by kernel_rfl) (by kernel_rfl) (fun _ _ _ h => h) (Or.inl ⟨by rfl, ?_⟩) hS ?_
  rotate_left
  · intro w0 hS0; obtain ⟨q0, q1, q2, q3⟩ := hS0; go_simp; try with_reducible rfl
  simp only [Act.put, List.setIfInBounds_toArray, List.set_cons_zero, List.set_cons_succ, List.getElem_toArray, List.getElem_cons_succ, List.getElem_cons_zero]
  refine wpAnyK_take (i := 3) (v := ?_) rfl (by kernel_rfl) (by kernel_rfl) (by kernel_rfl) (by kernel_rfl) (fun _ _ _ h => h) (Or.inl ⟨by rfl, ?_⟩) hS ?_
  rotate_left
  · intro w0 hS0; obtain ⟨q0, q1, q2, q3⟩ := hS0; go_simp; try with_reducible rfl
  simp only [Act.put, List.setIfInBounds_toArray, List.set_cons_zero, List.set_cons_succ, List.getElem_toArray, List.getElem_cons_succ, List.getElem_cons_zero]
  refine wpAnyK_take (i := 4) (v := ?_) rfl (by kernel_rfl) (by kernel_rfl) (by kernel_rfl) (by kernel_rfl) (fun _ _ _ h => h) (Or.inl ⟨by rfl, ?_⟩) hS ?_
  rotate_left
  · intro w0 hS0; obtain ⟨q0, q1, q2, q3⟩ := hS0; go_simp; try with_reducible rfl
  simp only [Act.put, List.setIfInBounds_toArray, List.set_cons_zero, List.set_cons_succ, List.getElem_toArray, List.getElem_cons_succ, List.getElem_cons_zero]
  refine wpAnyK_take (i := 6) (v := ?_) rfl (by kernel_rfl) (by kernel_rfl) (by kernel_rfl) (by kernel_rfl) (fun _ _ _ h => h) (Or.inl ⟨by rfl, ?_⟩) hS ?_
  rotate_left
  · intro w0 hS0; obtain ⟨q0, q1, q2, q3⟩ := hS0; go_simp; try with_reducible rfl
  simp only [Act.put, List.setIfInBounds_toArray, List.set_cons_zero, List.set_cons_succ, List.getElem_toArray, List.getElem_cons_succ, List.getElem_cons_zero]
  refine wpAnyK_take (i := 7) (v := ?_) rfl (by kernel_rfl) (by kernel_rfl) (by kernel_rfl) (by kernel_rfl) (fun _ _ _ h => h) (Or.inl ⟨by rfl, ?_⟩) hS ?_
  rotate_left
  · intro w0 hS0; obtain ⟨q0, q1, q2, q3⟩ := hS0; go_simp; try with_reducible rfl
  simp only [Act.put, List.setIfInBounds_toArray, List.set_cons_zero, List.set_cons_succ, List.getElem_toArray, List.getElem_cons_succ, List.getElem_cons_zero]
  refine wpAnyK_take (i := 8) (v := ?_) rfl (by kernel_rfl) (by kernel_rfl) (by kernel_rfl) (by kernel_rfl) (fun _ _ _ h => h) (Or.inl ⟨by rfl, ?_⟩) hS ?_
  rotate_left
  · intro w0 hS0; obtain ⟨q0, q1, q2, q3⟩ := hS0; go_simp; try with_reducible rfl
  simp only [Act.put, List.setIfInBounds_toArray, List.set_cons_zero, List.set_cons_succ, List.getElem_toArray, List.getElem_cons_succ, List.getElem_cons_zero]
  refine wpAnyK_take (i := 9) (v := ?_) rfl (by kernel_rfl) (by kernel_rfl) (by kernel_rfl) (by kernel_rfl) (fun _ _ _ h => h) (Or.inl ⟨by rfl, ?_⟩) hS ?_
  rotate_left
  · intro w0 hS0; obtain ⟨q0, q1, q2, q3⟩ := hS0; go_simp; try with_reducible rfl
  simp only [Act.put, List.setIfInBounds_toArray, List.set_cons_zero, List.set_cons_succ, List.getElem_toArray, List.getElem_cons_succ, List.getElem_cons_zero]
  refine wpAnyK_take (i := 10) (v := ?_) rfl (by kernel_rfl) (by kernel_rfl) (by kernel_rfl) (by kernel_rfl) (fun _ _ _ h => h) (Or.inl ⟨by rfl, ?_⟩) hS ?_
  rotate_left
  · intro w0 hS0; obtain ⟨q0, q1, q2, q3⟩ := hS0; go_simp; try with_reducible rfl
  simp only [Act.put, List.setIfInBounds_toArray, List.set_cons_zero, List.set_cons_succ, List.getElem_toArray, List.getElem_cons_succ, List.getElem_cons_zero]
  clear hS
  refine wpAnyK_one (i := 5) rfl (by kernel_rfl) rfl ?_
  go_simp
  refine HO.out.mono ?_
  rintro e w1 ⟨y, m1, rfl, h1, n1, o1⟩
  obtain ⟨g1, mid, ha, hx, _⟩ := HT.out.fst o1
  simp only at ha hx
  subst hx
  have hb1 : m1 w.heap.size = some (.cells #[.int .i64 10, .string nm, .string to, .int .i64 id, .int .i64 n, bv] 28) := mid.fr.keep _ _ HB.out (fun hp => HKN.out _ (.inl hp) rfl)
  have c1 : w1.cell? ⟨w.heap.size, 1, none⟩ = some (.string nm) := by rw [h1.cell hb1]; rfl
  have c2 : w1.cell? ⟨w.heap.size, 2, none⟩ = some (.string to) := by rw [h1.cell hb1]; rfl
  have c3 : w1.cell? ⟨w.heap.size, 3, none⟩ = some (.int .i64 id) := by rw [h1.cell hb1]; rfl
  have c4 : w1.cell? ⟨w.heap.size, 4, none⟩ = some (.int .i64 n) := by rw [h1.cell hb1]; rfl
  have c5 : w1.cell? ⟨w.heap.size, 5, none⟩ = some bv := by rw [h1.cell hb1]; rfl
  have blt := h1.lt hb1
  have N1 := Lib.hid (N0.out.drew.trans n1)
  have H1 := Lib.hid h1
  have MID := Lib.hid mid
  have HA := Lib.hid ha
  clear h1 n1 o1 mid ha HO hb1
  refine ⟨⟨c1, c2, c3, c4⟩, ?_⟩
  clear c1 c2 c3 c4 c5 blt
  refine wpAnyK_one (i := 11) rfl (by kernel_rfl) rfl ?_
  go_simp
  refine (resize_ref rb id n r w1 m1 H1.out MID.out.rf (by omega)).mono ?_
  rintro e w2 ⟨z, m2, rfl, h2, n2, o2⟩
  rw [HF2.out] at o2
  obtain ⟨r2, t2, fr, hz, _, fr2⟩ := MID.out.snd o2 HA.out
  simp only at hz
  subst hz
  have hb2 : m2 w.heap.size = some (.cells #[.int .i64 10, .string nm, .string to, .int .i64 id, .int .i64 n, bv] 28) := fr.keep _ _ HB.out (fun hp => HKN.out _ hp rfl)
  have R := Lib.hid (show DoesR w m sb rb g r a1 (.returned (.bool true)) w2 from ⟨m2, g1, r2, rfl, h2, N1.out.trans n2, t2, HA.out, FR0.out.trans fr⟩)
  have hS2 : (fun w' : World => w'.cell? ⟨w.heap.size, 1, none⟩ = some (.string nm) ∧ w'.cell? ⟨w.heap.size, 2, none⟩ = some (.string to) ∧ w'.cell? ⟨w.heap.size, 3, none⟩ = some (.int .i64 id) ∧ w'.cell? ⟨w.heap.size, 4, none⟩ = some (.int .i64 n)) w2 := by
    refine ⟨?_, ?_, ?_, ?_⟩ <;> (rw [h2.cell hb2]; rfl)
  refine ⟨hS2, ?_⟩
  clear h2 n2 o2 t2 fr fr2 hb2
  refine wpAnyK_one (i := 12) rfl (by kernel_rfl) rfl ?_
  go_simp
  clear hS2
  refine wpAnyK_one (i := 13) rfl (by kernel_rfl) rfl ?_
  go_simp
  refine wpAnyK_done (by kernel_rfl) ?_ _
  go_wp2_with fail
  go_ret
  exact R.out

set_option maxHeartbeats 2000000 in
set_option maxRecDepth 100000 in
theorem does_flush (sb rb : Nat) (nm to : ByteArray) (id n : Int) (bv : Value) (bs : List UInt8) (g : G) (r : RG) (w : World) (m : Mem) (hm : Has w m) (h : Two m sb rb g r) (hG : GlobOk m) (h0 : ¬ PP sb rb g r 0) (hn : g.n ≤ 9998) :
    Calls Tryz.prog 20 #[.pointer (some ⟨sb, 0, none⟩), .pointer (some ⟨rb, 0, none⟩), .agg #[.int .i64 14, .string nm, .string to, .int .i64 id, .int .i64 n, bv]] w (DoesR w m sb rb g r (g.abs.withA id () flushF).1) := by
  have hfr := hm.fresh (Nat.le_refl w.heap.size)
  have L := Mem.le_set m (.cells #[.int .i64 14, .string nm, .string to, .int .i64 id, .int .i64 n, bv] 28) hfr
  have HM := Lib.hid (hm.alloc (.cells #[.int .i64 14, .string nm, .string to, .int .i64 id, .int .i64 n, bv] 28))
  have hkn : ∀ b, PP sb rb g r b → b ≠ w.heap.size := fun b hb e => by
    obtain ⟨o, ho⟩ := h.known hb
    rw [e, hfr] at ho; cases ho
  have h' := h.le L
  have hb : (m.set w.heap.size (.cells #[.int .i64 14, .string nm, .string to, .int .i64 id, .int .i64 n, bv] 28)) w.heap.size = some (.cells #[.int .i64 14, .string nm, .string to, .int .i64 id, .int .i64 n, bv] 28) := Mem.set_same _ _ _
  have hG' := hG.le L
  have FR0 := Lib.hid (Fr.of_le L (PP sb rb g r))
  obtain ⟨m', hm'⟩ : ∃ m', m.set w.heap.size (.cells #[.int .i64 14, .string nm, .string to, .int .i64 id, .int .i64 n, bv] 28) = m' := ⟨_, rfl⟩
  rw [hm'] at HM FR0
  have HT := Lib.hid h'
  rw [hm'] at HT
  have HB := Lib.hid hb
  rw [hm'] at HB
  have HKN := Lib.hid hkn
  rw [hm'] at hG' L
  have n0 : Env w (w.alloc (.cells #[.int .i64 14, .string nm, .string to, .int .i64 id, .int .i64 n, bv] 28)) := (Env.refl w).alloc _
  have N0 := Lib.hid n0
  have HO := Lib.hid (flush_any sb id g _ m' HM.out.drew HT.out.st hG' (fun x => h0 (.inl x)) (by omega))
  obtain ⟨F, hF⟩ : ∃ F, g.abs.withA id () flushF = F := ⟨_, rfl⟩
  have hF2 : r.abs.withA id () flushF = F := by rw [h.eq]; exact hF
  rw [hF] at HO
  rw [hF]
  have HF2 := Lib.hid hF2
  have hn2 : r.n ≤ 9998 := by rw [h.n]; exact hn
  clear hm h hG h0 hF hF2 h' hb hm' hkn n0 hfr L hG'
  obtain ⟨a1, x, i⟩ := F
  go_enter Tryz.func20, Tryz.ntmps20
  go_wp2_with fail
  refine wp_region_K 9 (fun w' => w'.cell? ⟨w.heap.size, 1, none⟩ = some (.string nm) ∧ w'.cell? ⟨w.heap.size, 2, none⟩ = some (.string to) ∧ w'.cell? ⟨w.heap.size, 3, none⟩ = some (.int .i64 id) ∧ w'.cell? ⟨w.heap.size, 4, none⟩ = some (.int .i64 n)) (by kernel_rfl) ?_
  have hS : (fun w' : World => w'.cell? ⟨w.heap.size, 1, none⟩ = some (.string nm) ∧ w'.cell? ⟨w.heap.size, 2, none⟩ = some (.string to) ∧ w'.cell? ⟨w.heap.size, 3, none⟩ = some (.int .i64 id) ∧ w'.cell? ⟨w.heap.size, 4, none⟩ = some (.int .i64 n)) (w.alloc (.cells #[.int .i64 14, .string nm, .string to, .int .i64 id, .int .i64 n, bv] 28)).drew := by
    refine ⟨?_, ?_, ?_, ?_⟩ <;> (rw [HM.out.drew.cell HB.out]; rfl)
  refine wpAnyK_take (i := 0) (v := ?_) rfl (by kernel_rfl) (by kernel_rfl) (by kernel_rfl) (by kernel_rfl) (fun _ _ _ h => h) (Or.inl ⟨by rfl, ?_⟩) hS ?_
  rotate_left
  · intro w0 hS0; obtain ⟨q0, q1, q2, q3⟩ := hS0; go_simp; try with_reducible rfl
  simp only [Act.put, List.setIfInBounds_toArray, List.set_cons_zero, List.set_cons_succ, List.getElem_toArray, List.getElem_cons_succ, List.getElem_cons_zero]
  refine wpAnyK_take (i := 1) (v := ?_) rfl (by kernel_rfl) (by kernel_rfl) (by kernel_rfl) (by kernel_rfl) (fun _ _ _ h => h) (Or.inl ⟨by rfl, ?_⟩) hS ?_
  rotate_left
  · intro w0 hS0; obtain ⟨q0, q1, q2, q3⟩ := hS0; go_simp; try with_reducible rfl
  simp only [Act.put, List.setIfInBounds_toArray, List.set_cons_zero, List.set_cons_succ, List.getElem_toArray, List.getElem_cons_succ, List.getElem_cons_zero]
  refine wpAnyK_take (i := 2) (v := ?_) rfl (by kernel_rfl) (by kernel_rfl) (by kernel_rfl) (by kernel_rfl) (fun _ _ _ h => h) (Or.inl ⟨by rfl, ?_⟩) hS ?_
  rotate_left
  · intro w0 hS0; obtain ⟨q0, q1, q2, q3⟩ := hS0; go_simp; try with_reducible rfl
  simp only [Act.put, List.setIfInBounds_toArray, List.set_cons_zero, List.set_cons_succ, List.getElem_toArray, List.getElem_cons_succ, List.getElem_cons_zero]
  refine wpAnyK_take (i := 4) (v := ?_) rfl (by kernel_rfl) (by kernel_rfl) (by kernel_rfl) (by kernel_rfl) (fun _ _ _ h => h) (Or.inl ⟨by rfl, ?_⟩) hS ?_
  rotate_left
  · intro w0 hS0; obtain ⟨q0, q1, q2, q3⟩ := hS0; go_simp; try with_reducible rfl
  simp only [Act.put, List.setIfInBounds_toArray, List.set_cons_zero, List.set_cons_succ, List.getElem_toArray, List.getElem_cons_succ, List.getElem_cons_zero]
  refine wpAnyK_take (i := 5) (v := ?_) rfl (by kernel_rfl) (by kernel_rfl) (by kernel_rfl) (by kernel_rfl) (fun _ _ _ h => h) (Or.inl ⟨by rfl, ?_⟩) hS ?_
  rotate_left
  · intro w0 hS0; obtain ⟨q0, q1, q2, q3⟩ := hS0; go_simp; try with_reducible rfl
  simp only [Act.put, List.setIfInBounds_toArray, List.set_cons_zero, List.set_cons_succ, List.getElem_toArray, List.getElem_cons_succ, List.getElem_cons_zero]
  refine wpAnyK_take (i := 6) (v := ?_) rfl (by kernel_rfl) (by kernel_rfl) (by kernel_rfl) (by kernel_rfl) (fun _ _ _ h => h) (Or.inl ⟨by rfl, ?_⟩) hS ?_
  rotate_left
  · intro w0 hS0; obtain ⟨q0, q1, q2, q3⟩ := hS0; go_simp; try with_reducible rfl
  simp only [Act.put, List.setIfInBounds_toArray, List.set_cons_zero, List.set_cons_succ, List.getElem_toArray, List.getElem_cons_succ, List.getElem_cons_zero]
  clear hS
  refine wpAnyK_one (i := 3) rfl (by kernel_rfl) rfl ?_
  go_simp
  refine HO.out.mono ?_
  rintro e w1 ⟨y, m1, rfl, h1, n1, o1⟩
  obtain ⟨g1, mid, ha, hx, _⟩ := HT.out.fst o1
  simp only at ha hx
  subst hx
  have hb1 : m1 w.heap.size = some (.cells #[.int .i64 14, .string nm, .string to, .int .i64 id, .int .i64 n, bv] 28) := mid.fr.keep _ _ HB.out (fun hp => HKN.out _ (.inl hp) rfl)
  have c1 : w1.cell? ⟨w.heap.size, 1, none⟩ = some (.string nm) := by rw [h1.cell hb1]; rfl
  have c2 : w1.cell? ⟨w.heap.size, 2, none⟩ = some (.string to) := by rw [h1.cell hb1]; rfl
  have c3 : w1.cell? ⟨w.heap.size, 3, none⟩ = some (.int .i64 id) := by rw [h1.cell hb1]; rfl
  have c4 : w1.cell? ⟨w.heap.size, 4, none⟩ = some (.int .i64 n) := by rw [h1.cell hb1]; rfl
  have c5 : w1.cell? ⟨w.heap.size, 5, none⟩ = some bv := by rw [h1.cell hb1]; rfl
  have blt := h1.lt hb1
  have N1 := Lib.hid (N0.out.drew.trans n1)
  have H1 := Lib.hid h1
  have MID := Lib.hid mid
  have HA := Lib.hid ha
  clear h1 n1 o1 mid ha HO hb1
  refine ⟨⟨c1, c2, c3, c4⟩, ?_⟩
  clear c1 c2 c3 c4 c5 blt
  refine wpAnyK_one (i := 7) rfl (by kernel_rfl) rfl ?_
  go_simp
  refine (flush_ref rb id r w1 m1 H1.out MID.out.rf (by omega)).mono ?_
  rintro e w2 ⟨z, m2, rfl, h2, n2, o2⟩
  rw [HF2.out] at o2
  obtain ⟨r2, t2, fr, hz, _, fr2⟩ := MID.out.snd o2 HA.out
  simp only at hz
  subst hz
  have hb2 : m2 w.heap.size = some (.cells #[.int .i64 14, .string nm, .string to, .int .i64 id, .int .i64 n, bv] 28) := fr.keep _ _ HB.out (fun hp => HKN.out _ hp rfl)
  have R := Lib.hid (show DoesR w m sb rb g r a1 (.returned (.bool true)) w2 from ⟨m2, g1, r2, rfl, h2, N1.out.trans n2, t2, HA.out, FR0.out.trans fr⟩)
  have hS2 : (fun w' : World => w'.cell? ⟨w.heap.size, 1, none⟩ = some (.string nm) ∧ w'.cell? ⟨w.heap.size, 2, none⟩ = some (.string to) ∧ w'.cell? ⟨w.heap.size, 3, none⟩ = some (.int .i64 id) ∧ w'.cell? ⟨w.heap.size, 4, none⟩ = some (.int .i64 n)) w2 := by
    refine ⟨?_, ?_, ?_, ?_⟩ <;> (rw [h2.cell hb2]; rfl)
  refine ⟨hS2, ?_⟩
  clear h2 n2 o2 t2 fr fr2 hb2
  refine wpAnyK_one (i := 8) rfl (by kernel_rfl) rfl ?_
  go_simp
  clear hS2
  refine wpAnyK_one (i := 9) rfl (by kernel_rfl) rfl ?_
  go_simp
  refine wpAnyK_done (by kernel_rfl) ?_ _
  go_wp2_with fail
  go_ret
  exact R.out

end Go.Proofs.YtcdmdkgiabfbeaaGreatDoor

/-
  Bytes appended to nothing; what was not there; the bytes that are read.
-/
namespace Go.Proofs.YtcdmdkgiabfbeaaGreatDoor
open Go.RowKit

theorem run_app_bytes {w : World} {m : Mem} (hm : Has w m) (y : Value) (bs : List UInt8) (hy : WindK m y bs.length (bs.map byteV)) (hl : bs.length ≤ 1000000) :
    ∃ v' w' m', (Builtin.append_ #[26, 26] 26 #[.slice none 0 0, y]).run Tryz.prog w = .ok v' w' ∧ Env w w' ∧ Has w' m' ∧ m.le m' ∧ OutB m v' m' bs := by
  obtain ⟨i0, hi, hz0, hz1, hz2⟩ := info_parts infoB
  obtain ⟨v', w', m', hrun, n8, h8, row8, gr8⟩ := run_append_win 26 26 5 i0 _ 1 1 Tryz.underlying26 hi hz0 hz1 hz2 rfl (by decide)
    hm (.slice none 0 0) 0 [] (Row.nil _ _ _) y bs.length (bs.map byteV) hy (by simp) (fun u hu => by
      obtain ⟨b, _, rfl⟩ := List.mem_map.1 hu; rfl) (by omega) (by omega)
  refine ⟨v', w', m', hrun, n8, h8, fun b o hb => gr8.keep hb (fun h => by cases h), ⟨by simpa using row8, fun b hb => ?_⟩⟩
  rcases gr8 with ⟨_, h3⟩ | ⟨gb, o, h3, _, h4⟩
  · rw [h3] at hb; cases hb
  · rw [hb] at h3
    obtain rfl := Option.some.inj h3
    rcases h4 with h4 | h4
    · cases h4
    · exact h4

/-- A block that was not there behind an operation was not there ahead of it. -/
theorem RR.none_ahead {m m3 : Mem} {rb : Nat} {r r3 : RG} (h3 : RR m3 rb r3) (fr : Fr m m3 (RFP rb r) (RFP rb r3)) (hp : ∀ b, RFP rb r b → RFP rb r3 b) {b : Nat} (hb : m3 b = none) : m b = none := by
  cases hm : m b with
  | none => rfl
  | some o =>
    by_cases hr : RFP rb r b
    · obtain ⟨o', ho'⟩ := h3.rep.known (hp b hr)
      rw [ho'] at hb; cases hb
    · rw [fr.keep b o hm hr] at hb; cases hb

theorem readL_ref {r : RG} {nm : ByteArray} {md : Int} {ps : Nat} {n : Int} {bs : List UInt8} (hb : r.abs.bytes nm = bs) {Q : Nat} (hQ : mostI n r.tick.go.2.2 = Q) : readL r.abs.tick (nm, md, ps) n r.now = (bs.drop ps).take Q := by
  unfold readL leftL
  rw [show r.abs.tick.bytes (nm, md, ps).1 = bs from hb]
  have h2 := (mostI_nat n r.tick.go.2.2).2
  rw [hQ, show ((Q : Int)).toNat = Q from by omega] at h2
  rw [h2]; rfl
end Go.Proofs.YtcdmdkgiabfbeaaGreatDoor
