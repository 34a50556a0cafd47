/-
  The document's length, most, Resize, Read. (printed by refb_gen.py)
-/
import Derived.Test.YtcdmdkgiabfbeaaGreatDoorK18
import Derived.Test.YtcdmdkgiabfbeaaGreatDoorK22
import Derived.Test.YtcdmdkgiabfbeaaGreatDoorK06
import Derived.Test.YtcdmdkgiabfbeaaGreatDoorK10
import Derived.Test.YtcdmdkgiabfbeaaGreatDoorK03
namespace Go.Proofs.YtcdmdkgiabfbeaaGreatDoor
open Go.RowKit

/-- A slice of bytes that grows, in its own block or in a new one. -/
structure BW (m : Mem) (own : Nat → Prop) (mr : Mem) (v : Value) (bs : List UInt8) : Prop where
  keep : ∀ b o, m b = some o → ¬ own b → mr b = some o
  row : Row mr v 5 1 bs.length (bs.map byteV)
  new : ∀ b, v.ownBlock = some b → own b ∨ m b = none

theorem BW.unk {m : Mem} {own : Nat → Prop} {mr : Mem} {v : Value} {bs : List UInt8} (h : BW m own mr v bs) {b : Nat} (hb : mr b = none) (ho : ¬ own b) : m b = none := by
  cases hm : m b with
  | none => rfl
  | some o => rw [h.keep b o hm ho] at hb; cases hb

/-- One byte more. -/
theorem BW.app {m mr : Mem} {own : Nat → Prop} {v : Value} {bs : List UInt8} (h : BW m own mr v bs) (hown : ∀ b, own b → ∃ o, m b = some o) (hkn : ∀ b, own b → ∃ o, mr b = some o) (x : UInt8) (ty : TypeId) (w : World) (hw : Has w mr) (hl : bs.length ≤ 1000000) :
    ∃ v' w' m', (Builtin.append_ #[26, 26] ty #[v, .slice (some ⟨w.heap.size, 0, none⟩) 1 1]).run Tryz.prog (w.alloc (.cells #[byteV x] 5)) = .ok v' w' ∧ Env w w' ∧ Has w' m' ∧ BW m own m' v' (bs ++ [x]) ∧ (∀ b, own b → ∃ o, m' b = some o) := by
  obtain ⟨i0, hi, hz0, hz1, hz2⟩ := info_parts infoB
  have hfr := hw.fresh (Nat.le_refl w.heap.size)
  have lk := Mem.le_set mr (.cells #[byteV x] 5) hfr
  obtain ⟨v', w2, m2, hrun, he2, hh2, hrow2, hgr2⟩ := run_append_row (P := Tryz.prog) 26 ty 5 i0 (.int .u8 0) 1 1 Tryz.underlying26 hi hz0 hz1 hz2 rfl (by decide)
    (hw.alloc (.cells #[byteV x] 5)) v bs.length (bs.map byteV) (h.row.le lk) w.heap.size 0 1 1 [byteV x] rfl (Cells.whole (Mem.set_same _ _ _) rfl) (by simp [Value.oneCell', byteV]) (by decide) (by omega) (by omega)
  refine ⟨v', w2, m2, hrun, ((Env.refl w).alloc _).trans he2, hh2, ⟨fun b o hb ho => hgr2.keep (lk _ _ (h.keep b o hb ho)) fun hv => ?_, by simpa using hrow2, fun b hb => ?_⟩, fun b hb => ?_⟩
  · rcases h.new b hv with h1 | h1
    · exact ho h1
    · rw [h1] at hb; cases hb
  · rcases hgr2 with ⟨_, h2⟩ | ⟨gb, o, h2, _, h4⟩
    · rw [h2] at hb; exact h.new b hb
    · rw [hb] at h2
      obtain rfl := Option.some.inj h2
      rcases h4 with h4 | h4
      · exact h.new b h4
      · by_cases ho : own b
        · exact .inl ho
        · exact .inr (h.unk (Mem.none_le lk h4) ho)
  · obtain ⟨o, ho⟩ := hkn b hb
    rcases hgr2 with ⟨rfl, _⟩ | ⟨gb, o', _, rfl, _⟩
    · exact ⟨o, lk _ _ ho⟩
    · by_cases he : b = gb
      · subst he; exact ⟨o', Mem.set_same _ _ _⟩
      · exact ⟨o, by rw [Mem.set_ne _ _ he]; exact lk _ _ ho⟩

theorem Row.trunc {m : Mem} {a : Option Addr} {l cap : Nat} {e : TypeId} {xs : List Value} (h : Row m (.slice a l cap) e 1 l xs) {n : Nat} (hn : n ≤ l) : Row m (.slice a n cap) e 1 n (xs.take n) := by
  obtain ⟨h1, ⟨h2, h3⟩ | ⟨g, c, cur, fz, hv, hg, hth, hnc, hcm, hcs, htk⟩⟩ := h
  · subst h3
    obtain rfl : n = 0 := by omega
    simp only [Value.slice.injEq] at h2
    obtain ⟨rfl, _, rfl⟩ := h2
    simpa using Row.nil m e 1
  · simp only [Value.slice.injEq] at hv
    obtain ⟨rfl, _, rfl⟩ := hv
    refine ⟨by rw [List.length_take]; omega, .inr ⟨g, cap, cur, fz, rfl, hg, hth, by omega, hcm, hcs, ?_⟩⟩
    rw [← htk, List.take_take]
    congr 1; omega

theorem resz_step (bs : List UInt8) (j : Nat) : bs ++ List.replicate j 0 ++ [(0 : UInt8)] = bs ++ List.replicate (j + 1) 0 := by
  rw [List.append_assoc, List.replicate_succ']
theorem resz_take (bs : List UInt8) (n : Nat) : (bs ++ List.replicate (n - bs.length) 0).take n = resz bs n := by
  unfold resz
  rcases Nat.lt_or_ge n bs.length with h | h
  · rw [Nat.sub_eq_zero_of_le (by omega), List.replicate_zero, List.append_nil, List.append_nil]
  · rw [List.take_of_length_le (by simp; omega), List.take_of_length_le h]

def lenOfB : Value → Nat | .slice _ n _ => n | _ => 0

def LenR (rb k n : Nat) (f : RF) (r : RG) (w : World) (m : Mem) (e : Ending) (w2 : World) : Prop :=
  ∃ m2 bv, e = .returned (.tuple #[]) ∧ Has w2 m2 ∧ Env w w2 ∧ RR m2 rb { r with F := r.F.set k { f with bv := bv, bs := resz f.bs n } } ∧ Fr m m2 (RFP rb r) (RFP rb { r with F := r.F.set k { f with bv := bv, bs := resz f.bs n } })

set_option maxHeartbeats 2000000 in
set_option maxRecDepth 100000 in
theorem length_ref (rb k n : Nat) (f : RF) (r : RG) (w : World) (m : Mem) (hm : Has w m) (hr : RR m rb r) (hk : r.F[k]? = some f) (hk0 : k ≠ 0) (hf : f.name ≠ ⟨#[]⟩) (hn : n ≤ 262144) (hrn : r.n ≤ 9999) :
    Calls Tryz.prog 98 #[.pointer (some ⟨rb, 0, none⟩), .int .i64 k, .int .i64 n] w (LenR rb k n f r w m) := by
  obtain ⟨fb, fcap, hfv, hat0⟩ := hr.rep.at hm
  clear hat0
  have hmf := List.mem_of_getElem? hk
  have hfl : k < r.F.length := (List.getElem?_eq_some_iff.1 hk).1
  have hflen : r.F.length ≤ 101 + r.n := hr.rep.flen
  have hfe : r.F[k] = f := (List.getElem?_eq_some_iff.1 hk).2
  obtain ⟨ba, bc, hbv, hbc⟩ := (hr.rep.bytes f hmf).lenV
  have hbl := hr.rep.bsz f hmf
  have hrow := hr.rep.bytes f hmf
  have notf : ∀ {c e fz b}, m b = some (.cells c e fz) → e ≠ 5 → f.bv.ownBlock ≠ some b := fun hc he => hrow.notOwn (e' := _) hc he
  have KEEP : Hid (∀ mr, (∀ b o, m b = some o → ¬ (f.bv.ownBlock = some b) → mr b = some o) → ∀ wx, Has wx mr → wx.cell? ⟨rb, 0, none⟩ = some (.slice (some ⟨fb, 0, none⟩) r.F.length fcap) ∧ wx.cell? ⟨fb, k * 2 + 1, none⟩ = some (.slice ba f.bs.length bc) ∧ rb < wx.heap.size ∧ fb < wx.heap.size) := Lib.hid (fun mr hkeep wx hx => by
    have s1 := hkeep rb _ hr.rep.store (notf hr.rep.store (by decide))
    obtain ⟨_, _, hp2⟩ := hr.rep.at' hm hfv
    obtain ⟨cur, fz, hc⟩ := hr.rep.files.ty (b := fb) (by rw [hfv]; rfl)
    have s2 := hkeep fb _ hc (notf hc (by decide))
    have hq := (hp2 k hfl).2
    rw [hm.cell hc] at hq
    refine ⟨by rw [hx.cell s1, ← hfv]; rfl, by rw [hx.cell s2, hq, hfe, hbv], hx.lt s1, hx.lt s2⟩)
  obtain ⟨c0, g1, rlt, flt⟩ := KEEP.out m (fun b o h _ => h) w hm
  have B0 : Hid (BW m (fun b => f.bv.ownBlock = some b) m (.slice ba f.bs.length bc) (f.bs ++ List.replicate 0 0)) := Lib.hid ⟨fun b o h _ => h, by rw [List.replicate_zero, List.append_nil, ← hbv]; exact hrow, fun b hb => .inl (by rw [hbv]; exact hb)⟩
  have HKN : Hid (∀ b, f.bv.ownBlock = some b → ∃ o, m b = some o) := Lib.hid (fun b hb => by obtain ⟨_, _, hc⟩ := hrow.ty hb; exact ⟨_, hc⟩)
  have H := Lib.hid hm
  have HR := Lib.hid hr
  have HK := Lib.hid hk
  have HF := Lib.hid hf
  have HFV := Lib.hid hfv
  clear hm hr hk hf hfv hfe hbv hrow notf hmf
  go_enter Tryz.func98, Tryz.ntmps98
  go_wp2_with fail
  go_loopw [6] (fun v wr => ∃ (j : Nat) (xa : Option Addr) (xc : Nat), v = .slice xa (f.bs.length + j) xc ∧ f.bs.length + j ≤ max f.bs.length n ∧ Hid (∃ mr, Has wr mr ∧ Env w wr ∧ BW m (fun b => f.bv.ownBlock = some b) mr v (f.bs ++ List.replicate j 0) ∧ (∀ b, f.bv.ownBlock = some b → ∃ o, mr b = some o))) (fun v _ => n - lenOfB v)
  case atStart => exact ⟨0, ba, bc, rfl, by omega, Lib.hid ⟨m, H.out, Env.refl _, B0.out, HKN.out⟩⟩
  case round =>
    clear c0 g1 rlt flt
    obtain ⟨j, xa, xc, rfl, hj, HX⟩ := hrel
    obtain ⟨mr, hwr, nr, bw, hkn⟩ := HX.out
    by_cases hlt : ((f.bs.length + j : Nat) : Int) < (n : Int)
    · obtain ⟨v', w5, m5, hrun, n5, h5, bw5, hkn5⟩ := bw.app HKN.out hkn 0 26 wr hwr (by simp; omega)
      have hl5 : (f.bs ++ List.replicate j 0 ++ [(0 : UInt8)]).length = f.bs.length + (j + 1) := by simp [Nat.add_assoc]
      have wl5 := bw5.row.lenV
      rw [hl5] at wl5
      obtain ⟨xa', xc', rfl, _⟩ := wl5
      rw [resz_step] at bw5
      have HX5 : Hid (∃ mr, Has w5 mr ∧ Env w w5 ∧ BW m (fun b => f.bv.ownBlock = some b) mr (.slice xa' (f.bs.length + (j + 1)) xc') (f.bs ++ List.replicate (j + 1) 0) ∧ (∀ b, f.bv.ownBlock = some b → ∃ o, mr b = some o)) := Lib.hid ⟨m5, h5, nr.trans n5, bw5, hkn5⟩
      clear n5 h5 bw5 hkn5 hl5 bw hkn nr hwr HX
      change (Builtin.append_ #[26, 26] 26 #[.slice xa (f.bs.length + j) xc, .slice (some ⟨wr.heap.size, 0, none⟩) 1 1]).run Tryz.prog (wr.alloc (.cells #[.int .u8 0] 5)) = _ at hrun
      go_wp2_with (at_builtin; refine wpList_b2 rfl .append Builtin.append_ (fun _ _ _ _ => rfl) _ _ _ _ rfl rfl rfl hrun ?_)
      go_roundw
      case rel => exact ⟨j + 1, xa', xc', rfl, by omega, HX5⟩
      case measure => simp [lenOfB]; omega
    · have hjn : j = n - f.bs.length := by omega
      have hwl : n ≤ f.bs.length + j := by omega
      have tr : Row mr (.slice xa n xc) 5 1 n ((resz f.bs n).map byteV) := by
        have h1 := bw.row
        rw [show (f.bs ++ List.replicate j (0 : UInt8)).length = f.bs.length + j from by simp] at h1
        have h2 := h1.trunc hwl
        rw [← List.map_take, hjn, resz_take] at h2
        exact h2
      obtain ⟨c0, g1, rlt, flt⟩ := KEEP.out mr bw.keep wr hwr
      have hxc : f.bs.length + j ≤ xc := by
        obtain ⟨_, _, h1, h2⟩ := bw.row.lenV
        simp only [Value.slice.injEq] at h1
        obtain ⟨_, h3, rfl⟩ := h1
        rw [h3]; exact h2
      have hdist : Dist (r.F.set k { f with bv := .slice xa n xc, bs := resz f.bs n }) := dist_set HR.out.rep.dist fun i d hi hd hn' he => hi (HR.out.rep.dist i k d f hd HK.out (by rw [← he]; exact hn') he.symm)
      have hrow2 : Row mr (.slice xa n xc) 5 1 (resz f.bs n).length ((resz f.bs n).map byteV) := by rw [resz_length]; exact tr
      have hown : (Value.slice xa n xc).ownBlock = (Value.slice xa (f.bs.length + j) xc).ownBlock := by cases xa <;> rfl
      obtain ⟨hfz, m2, h2, r2, f2⟩ := HR.out.setF HFV.out (k := k) HK.out hk0 bw.keep { f with bv := .slice xa n xc, bs := resz f.bs n } 1 [.slice xa n xc] (Nat.le_refl 2) rfl hrow2 (fun b hb => bw.new b (by rw [← hown]; exact hb)) hdist (fun hne => HR.out.rep.named f (List.mem_of_getElem? HK.out) hne) (by show (resz f.bs n).length ≤ _; rw [resz_length]; exact hn) (fun he => absurd he HF.out) hwr.drew
      have z1 := hfz (k * 2 + 1) (by omega)
      have H2 := Lib.hid h2
      have R2 := Lib.hid r2
      have F2 := Lib.hid f2
      have NR := Lib.hid nr
      have hxc2 : (n : Int) ≤ xc := by omega
      clear h2 r2 f2 nr hown hrow2 hdist tr bw hkn hwr HX hfz hwl hjn
      go_wp2_with fail
      refine wp_region_K 10 (fun w' => w'.cell? ⟨rb, 0, none⟩ = some (.slice (some ⟨fb, 0, none⟩) r.F.length fcap)) (by kernel_rfl) ?_
      have hS : (fun w' : World => w'.cell? ⟨rb, 0, none⟩ = some (.slice (some ⟨fb, 0, none⟩) r.F.length fcap)) wr.drew := c0
      refine wpAnyK_take (i := 0) (v := ?_) rfl (by kernel_rfl) (by kernel_rfl) (by kernel_rfl) (by kernel_rfl) (fun _ _ _ h => h) (Or.inl ⟨by rfl, ?_⟩) hS ?_
      rotate_left
      · intro w0 hS0; (try dsimp only at hS0); go_simp; try with_reducible rfl
      simp only [Act.put, List.setIfInBounds_toArray, List.set_cons_zero, List.set_cons_succ, List.getElem_toArray, List.getElem_cons_succ, List.getElem_cons_zero]
      refine wpAnyK_take (i := 1) (v := ?_) rfl (by kernel_rfl) (by kernel_rfl) (by kernel_rfl) (by kernel_rfl) (fun _ _ _ h => h) (Or.inl ⟨by rfl, ?_⟩) hS ?_
      rotate_left
      · intro w0 hS0; (try dsimp only at hS0); go_simp; try with_reducible rfl
      simp only [Act.put, List.setIfInBounds_toArray, List.set_cons_zero, List.set_cons_succ, List.getElem_toArray, List.getElem_cons_succ, List.getElem_cons_zero]
      refine wpAnyK_take (i := 2) (v := ?_) rfl (by kernel_rfl) (by kernel_rfl) (by kernel_rfl) (by kernel_rfl) (fun _ _ _ h => h) (Or.inl ⟨by rfl, ?_⟩) hS ?_
      rotate_left
      · intro w0 hS0; (try dsimp only at hS0); go_simp; try with_reducible rfl
      simp only [Act.put, List.setIfInBounds_toArray, List.set_cons_zero, List.set_cons_succ, List.getElem_toArray, List.getElem_cons_succ, List.getElem_cons_zero]
      refine wpAnyK_take (i := 3) (v := ?_) rfl (by kernel_rfl) (by kernel_rfl) (by kernel_rfl) (by kernel_rfl) (fun _ _ _ h => h) (Or.inl ⟨by rfl, ?_⟩) hS ?_
      rotate_left
      · intro w0 hS0; (try dsimp only at hS0); go_simp; try with_reducible rfl
      simp only [Act.put, List.setIfInBounds_toArray, List.set_cons_zero, List.set_cons_succ, List.getElem_toArray, List.getElem_cons_succ, List.getElem_cons_zero]
      refine wpAnyK_take (i := 4) (v := ?_) rfl (by kernel_rfl) (by kernel_rfl) (by kernel_rfl) (by kernel_rfl) (fun _ _ _ h => h) (Or.inl ⟨by rfl, ?_⟩) hS ?_
      rotate_left
      · intro w0 hS0; (try dsimp only at hS0); go_simp; try with_reducible rfl
      simp only [Act.put, List.setIfInBounds_toArray, List.set_cons_zero, List.set_cons_succ, List.getElem_toArray, List.getElem_cons_succ, List.getElem_cons_zero]
      refine wpAnyK_take (i := 5) (v := ?_) rfl (by kernel_rfl) (by kernel_rfl) (by kernel_rfl) (by kernel_rfl) (fun _ _ _ h => h) (Or.inl ⟨by rfl, ?_⟩) hS ?_
      rotate_left
      · intro w0 hS0; (try dsimp only at hS0); go_simp; try with_reducible rfl
      simp only [Act.put, List.setIfInBounds_toArray, List.set_cons_zero, List.set_cons_succ, List.getElem_toArray, List.getElem_cons_succ, List.getElem_cons_zero]
      refine wpAnyK_take (i := 6) (v := ?_) rfl (by kernel_rfl) (by kernel_rfl) (by kernel_rfl) (by kernel_rfl) (fun _ _ _ h => h) (Or.inl ⟨by rfl, ?_⟩) hS ?_
      rotate_left
      · intro w0 hS0; (try dsimp only at hS0); go_simp; try with_reducible rfl
      simp only [Act.put, List.setIfInBounds_toArray, List.set_cons_zero, List.set_cons_succ, List.getElem_toArray, List.getElem_cons_succ, List.getElem_cons_zero]
      refine wpAnyK_take (i := 7) (v := ?_) rfl (by kernel_rfl) (by kernel_rfl) (by kernel_rfl) (by kernel_rfl) (fun _ _ _ h => h) (Or.inl ⟨by rfl, ?_⟩) hS ?_
      rotate_left
      · intro w0 hS0; (try dsimp only at hS0); go_simp; try with_reducible rfl
      simp only [Act.put, List.setIfInBounds_toArray, List.set_cons_zero, List.set_cons_succ, List.getElem_toArray, List.getElem_cons_succ, List.getElem_cons_zero]
      refine wpAnyK_take (i := 8) (v := ?_) rfl (by kernel_rfl) (by kernel_rfl) (by kernel_rfl) (by kernel_rfl) (fun _ _ _ h => h) (Or.inl ⟨by rfl, ?_⟩) hS ?_
      rotate_left
      · intro w0 hS0; (try dsimp only at hS0); go_simp; try with_reducible rfl
      simp only [Act.put, List.setIfInBounds_toArray, List.set_cons_zero, List.set_cons_succ, List.getElem_toArray, List.getElem_cons_succ, List.getElem_cons_zero]
      refine wpAnyK_take (i := 9) (v := ?_) rfl (by kernel_rfl) (by kernel_rfl) (by kernel_rfl) (by kernel_rfl) (fun _ _ _ h => h) (Or.inl ⟨by rfl, ?_⟩) hS ?_
      rotate_left
      · intro w0 hS0; (try dsimp only at hS0); go_simp; try with_reducible rfl
      simp only [Act.put, List.setIfInBounds_toArray, List.set_cons_zero, List.set_cons_succ, List.getElem_toArray, List.getElem_cons_succ, List.getElem_cons_zero]
      clear hS
      refine wpAnyK_one (i := 10) rfl (by kernel_rfl) rfl ?_
      go_simp
      refine wpAnyK_done (by kernel_rfl) ?_ _
      go_wp2_with fail
      refine bodyPost_ret (v := .tuple #[]) (by simp [results, Tryz.results98, go_sem]) rfl ?_
      exact ⟨m2, _, rfl, H2.out, (NR.out.setCell _ _).drew, R2.out, F2.out⟩

def mostI (n s : Int) : Int := if 0 < s ∧ s < (if n < 0 then 0 else n) then s else if n < 0 then 0 else n
theorem mostI_nat (n s : Int) : 0 ≤ mostI n s ∧ (mostI n s).toNat = (if 0 < s then min n s else n).toNat := by
  unfold mostI
  split <;> split <;> split <;> omega

set_option maxHeartbeats 1000000 in
theorem most_ref (rb : Nat) (n : Int) (r : RG) (w : World) (m : Mem) (hm : Has w m) (hr : RRep m rb r) :
    Calls Tryz.prog 99 #[.pointer (some ⟨rb, 0, none⟩), .int .i64 n] w fun e w' => e = .returned (.int .i64 (mostI n r.go.2.2)) ∧ w' = w := by
  have c6 : w.cell? ⟨rb, 6, none⟩ = some (.int .i64 r.go.2.2) := by rw [hm.cell hr.store]; rfl
  have rlt := hm.lt hr.store
  clear hm hr
  obtain ⟨s, hs⟩ : ∃ s, r.go.2.2 = s := ⟨_, rfl⟩
  rw [hs] at c6 ⊢
  clear hs
  obtain ⟨x, hx⟩ : ∃ x, mostI n s = x := ⟨_, rfl⟩
  rw [hx]
  have HX := Lib.hid hx
  clear hx
  by_cases hn : n < 0
  · by_cases hs : 0 < s
    · go_enter Tryz.func99, Tryz.ntmps99
      go_wp2_with fail
      go_ret
      refine ⟨?_, rfl⟩
      rw [← HX.out]
      unfold mostI
      rw [if_pos hn, if_neg (by omega)]; rfl
    · go_enter Tryz.func99, Tryz.ntmps99
      go_wp2_with fail
      go_ret
      refine ⟨?_, rfl⟩
      rw [← HX.out]
      unfold mostI
      rw [if_pos hn, if_neg (by omega)]; rfl
  · by_cases hs : 0 < s
    · by_cases hsn : s < n
      · go_enter Tryz.func99, Tryz.ntmps99
        go_wp2_with fail
        go_ret
        refine ⟨?_, rfl⟩
        rw [← HX.out]
        unfold mostI
        rw [if_neg (by omega : ¬ n < 0), if_pos ⟨hs, hsn⟩]; rfl
      · go_enter Tryz.func99, Tryz.ntmps99
        go_wp2_with fail
        go_ret
        refine ⟨?_, rfl⟩
        rw [← HX.out]
        unfold mostI
        rw [if_neg (by omega : ¬ n < 0), if_neg (by omega)]; rfl
    · go_enter Tryz.func99, Tryz.ntmps99
      go_wp2_with fail
      go_ret
      refine ⟨?_, rfl⟩
      rw [← HX.out]
      unfold mostI
      rw [if_neg (by omega : ¬ n < 0), if_neg (by omega)]; rfl

theorem Row.win {m : Mem} {a : Option Addr} {l cap : Nat} {e : TypeId} {xs : List Value} (h : Row m (.slice a l cap) e 1 l xs) {p n c : Nat} (hn : p + n ≤ l) (hp : 0 < n) : ∃ g, a = some ⟨g, 0, none⟩ ∧ WindK m (.slice (some ⟨g, p, none⟩) n c) n ((xs.drop p).take n) := by
  obtain ⟨h1, ⟨h2, h3⟩ | ⟨g, cp, cur, fz, hv, hg, hth, hnc, hcm, hcs, htk⟩⟩ := h
  · omega
  · simp only [Value.slice.injEq] at hv
    obtain ⟨rfl, _, rfl⟩ := hv
    refine ⟨g, rfl, .inr ⟨_, _, rfl, fun _ => ⟨g, p, rfl, cur, e, fz, hg, fun j u hj => ?_⟩⟩⟩
    rw [List.getElem?_take] at hj
    by_cases hjn : j < n
    · rw [if_pos hjn, List.getElem?_drop, ← htk, List.getElem?_take, if_pos (by omega)] at hj
      simpa using hj
    · rw [if_neg hjn] at hj; cases hj

theorem abs_setSame {a : A} {i : Nat} {x : Option H3} (h : a.hnd i = x) : a.setH i x = a := by
  unfold A.setH
  cases a with
  | mk look count hnd fails n =>
    simp only [A.mk.injEq, true_and, and_true]
    funext j
    by_cases e : j = i
    · rw [if_pos e, e]; exact h.symm
    · rw [if_neg e]

set_option maxHeartbeats 2000000 in
set_option maxRecDepth 100000 in
theorem resize_ref (rb : Nat) (id : Int) (n : Int) (r : RG) (w : World) (m : Mem) (hm : Has w m) (hr : RR m rb r) (hn : r.n ≤ 9998) :
    Calls Tryz.prog 67 #[.pointer (some ⟨rb, 0, none⟩), .int .i64 id, .int .i64 n] w
      (Ans w (ROpR m rb r (A.withA r.abs id () (resizeF n)) (fun _ _ => True))) := by
  have HBG := Lib.hid (begun_ref rb r id w m hm hr (by omega))
  have HR := Lib.hid hr
  have HT := Lib.hid hr.tick
  have FT := Lib.hid (RR.frTick m rb r)
  clear hm hr
  go_enter Tryz.func67, Tryz.ntmps67
  go_wp2_with fail
  refine HBG.out.mono ?_
  rintro e w1 ⟨rfl, h1, n1⟩
  have H1 := Lib.hid h1
  have N1 := Lib.hid n1
  clear h1 n1 HBG
  rcases HR.out.begun id with ⟨hx, hW⟩ | ⟨hx, k, o, f, hid, hk1, hk2, ho, hof, hf, hfn, hW⟩
  · have HE := Lib.hid (HR.out.early (begX r.abs id) () (fun _ _ => True) trivial)
    have HW := Lib.hid hW
    clear hW
    obtain ⟨x, hxx⟩ : ∃ x, begX r.abs id = x := ⟨_, rfl⟩
    rw [hxx] at hx
    have HXX := Lib.hid hxx
    rw [hxx] at HE
    rw [hxx]
    clear hxx
    have hb : (x == 0) = false := by simpa using hx
    go_wp2_with fail
    go_ret
    rw [HW.out, HXX.out]
    exact ⟨_, _, rfl, H1.out, N1.out, HE.out⟩
  · subst hid
    obtain ⟨m1, hm1⟩ : ∃ m1, m.set rb (rstoreObj r.tick) = m1 := ⟨_, rfl⟩
    rw [hm1] at H1 HT FT
    clear hm1
    rw [hx]
    have HW := Lib.hid hW
    clear hW hx
    obtain ⟨ob, ocap, hov, hat⟩ := HT.out.rep.atO
    have hfz := HT.out.rep.frozO hov H1.out
    obtain ⟨c1, olt, hat⟩ := hat w1 H1.out
    obtain ⟨e0, e1, e2⟩ := hat k o ho
    have rlt := H1.out.lt HT.out.rep.store
    have HOV := Lib.hid hov
    clear hov hat
    have HO := Lib.hid ho
    have HF := Lib.hid hf
    have HFN := Lib.hid hfn
    obtain ⟨fl, hfe⟩ : ∃ fl, o.file = fl := ⟨_, rfl⟩
    obtain ⟨md, hmd⟩ : ∃ md, o.mode = md := ⟨_, rfl⟩
    obtain ⟨ps, hps⟩ : ∃ ps, o.pos = ps := ⟨_, rfl⟩
    have hpl := HT.out.rep.opos o (List.mem_of_getElem? ho)
    rw [hfe] at HF
    simp only [hfe, hmd, hps] at *
    have HFE := Lib.hid hfe
    have HMD := Lib.hid hmd
    have HPS := Lib.hid hps
    clear ho hf hfn hfe hmd hps
    clear hfz e2
    by_cases hm1 : md = 1
    · have hmb : (md == 1) = true := by simpa using hm1
      go_wp2_with fail
      go_ret
      rw [HW.out]
      have hF : resizeF n r.abs.tick (f.name, md, ps) r.now = (r.abs.tick, -20, ()) := by
        unfold resizeF
        rw [show resizeX (f.name, md, ps) n = -20 from by unfold resizeX; rw [if_pos (show (f.name, md, ps).2.1 = 1 from hm1)], if_pos (by decide)]
      rw [hF]
      exact ⟨_, _, rfl, H1.out, N1.out, r.tick, HT.out, FT.out, rfl, rfl, trivial⟩
    · have hmb : (md == 1) = false := by simpa using hm1
      by_cases hn0 : n < 0
      · go_wp2_with fail
        go_ret
        rw [HW.out]
        have hF : resizeF n r.abs.tick (f.name, md, ps) r.now = (r.abs.tick, -36, ()) := by
          unfold resizeF
          rw [show resizeX (f.name, md, ps) n = -36 from by unfold resizeX; rw [if_neg (show ¬ (f.name, md, ps).2.1 = 1 from hm1), if_pos hn0], if_pos (by decide)]
        rw [hF]
        exact ⟨_, _, rfl, H1.out, N1.out, r.tick, HT.out, FT.out, rfl, rfl, trivial⟩
      · by_cases hn1 : 262144 < n
        · go_wp2_with fail
          go_ret
          rw [HW.out]
          have hF : resizeF n r.abs.tick (f.name, md, ps) r.now = (r.abs.tick, -8, ()) := by
            unfold resizeF
            rw [show resizeX (f.name, md, ps) n = -8 from by unfold resizeX; rw [if_neg (show ¬ (f.name, md, ps).2.1 = 1 from hm1), if_neg (by omega : ¬ n < 0), if_pos hn1], if_pos (by decide)]
          rw [hF]
          exact ⟨_, _, rfl, H1.out, N1.out, r.tick, HT.out, FT.out, rfl, rfl, trivial⟩
        · obtain ⟨q, rfl⟩ : ∃ q : Nat, n = q := ⟨n.toNat, by omega⟩
          go_wp2_with fail
          refine (length_ref rb fl q f r.tick w1 m1 H1.out HT.out HF.out hof HFN.out (by omega) (by show r.n + 1 ≤ _; omega)).mono ?_
          rintro e w2 ⟨m2, bv, rfl, h2, n2, r2, f2⟩
          have H2 := Lib.hid h2
          have N2 := Lib.hid n2
          have R2 := Lib.hid r2
          have F2 := Lib.hid f2
          clear h2 n2 r2 f2
          go_wp2_with fail
          go_ret
          rw [HW.out]
          have hF : resizeF q r.abs.tick (f.name, md, ps) r.now = (r.abs.tick.setF f.name (resz f.bs q), 0, ()) := by
            unfold resizeF
            rw [show resizeX (f.name, md, ps) q = 0 from by unfold resizeX; rw [if_neg (show ¬ (f.name, md, ps).2.1 = 1 from hm1), if_neg (by omega : ¬ (q : Int) < 0), if_neg (by omega : ¬ 262144 < (q : Int))], if_neg (fun c => c rfl)]
            show (r.abs.tick.setF f.name (resz (r.abs.bytes f.name) (q : Int).toNat), _, _) = _
            rw [HR.out.bytesOf HF.out HFN.out, show (q : Int).toNat = q from by omega]
          rw [hF]
          exact ⟨_, m2, rfl, H2.out, N1.out.trans N2.out, _, R2.out, FT.out.trans F2.out, abs_putB (r := r.tick) HT.out.rep.dist HF.out rfl HFN.out, rfl, trivial⟩

end Go.Proofs.YtcdmdkgiabfbeaaGreatDoor

/-
  Rename. (printed by rename_gen.py)
-/
namespace Go.Proofs.YtcdmdkgiabfbeaaGreatDoor
open Go.RowKit

set_option maxHeartbeats 8000000 in
set_option maxRecDepth 100000 in
theorem rename_any (sb : Nat) (s t : ByteArray) (g : G) (w : World) (m : Mem) (hm : Has w m) (hr : SRep m sb g) (hG : GlobOk m) (h0 : ¬ FP sb g 0) (hn : g.n ≤ 999999) :
    Calls Tryz.prog 14 #[.pointer (some ⟨sb, 0, none⟩), .string s, .string t] w
      (Ans w (OpR m sb g (fun _ => False) (g.abs.renF s t) (fun _ _ => True))) := by
  have hfr := hm.fresh (Nat.le_refl w.heap.size)
  have h1 := hm.alloc (.cells #[.pointer (some ⟨sb, 0, none⟩)] 25)
  have l1 := Mem.le_set m (.cells #[.pointer (some ⟨sb, 0, none⟩)] 25) hfr
  have hfr2 := h1.fresh (Nat.le_refl _)
  have h2 := h1.alloc (.cells #[.string t] 9)
  have l2 := Mem.le_set _ (.cells #[.string t] 9) hfr2
  have hsz : (w.alloc (.cells #[.pointer (some ⟨sb, 0, none⟩)] 25)).heap.size = w.heap.size + 1 := by simp
  rw [hsz] at h2 l2 hfr2
  have bx := l2 _ _ (Mem.set_same m w.heap.size (.cells #[.pointer (some ⟨sb, 0, none⟩)] 25))
  have nx := Mem.set_same (m.set w.heap.size (.cells #[.pointer (some ⟨sb, 0, none⟩)] 25)) (w.heap.size + 1) (.cells #[.string t] 9)
  have hnsb : sb ≠ w.heap.size := Ne.symm (Mem.ne_of_none hfr hr.store)
  have hnsb2 : sb ≠ w.heap.size + 1 := Ne.symm (Mem.ne_of_none hfr2 (l1 _ _ hr.store))
  have l12 := Mem.le_trans l1 l2
  have c0 : ((w.alloc (.cells #[.pointer (some ⟨sb, 0, none⟩)] 25)).alloc (.cells #[.string t] 9)).cell? ⟨w.heap.size, 0, none⟩ = some (.pointer (some ⟨sb, 0, none⟩)) := by rw [h2.cell bx]; rfl
  obtain ⟨ma, hma⟩ : ∃ ma, (m.set w.heap.size (.cells #[.pointer (some ⟨sb, 0, none⟩)] 25)).set (w.heap.size + 1) (.cells #[.string t] 9) = ma := ⟨_, rfl⟩
  rw [hma] at h2 l12 bx nx
  have BG := begin_g sb g _ _ h2 (hr.le l12) hn
  have frS := Fr.tick (Mem.le_refl (ma.set sb (storeObj g.tick))) (fun _ => False)
  have hGs := frS.glob (by rintro (x | x); exact h0 x; exact x) (hG.le l12)
  have HBG := Lib.hid BG
  have HR1 := Lib.hid (hr.le l12).count
  have HG1 := Lib.hid hGs
  have H0 := Lib.hid h0
  have L1 := Lib.hid l12
  have FRS := Lib.hid frS
  have BX := Lib.hid (show (ma.set sb (storeObj g.tick)) w.heap.size = some (.cells #[.pointer (some ⟨sb, 0, none⟩)] 25 (0, 0)) from by rw [Mem.set_ne _ _ (Ne.symm hnsb)]; exact bx)
  have NX := Lib.hid (show (ma.set sb (storeObj g.tick)) (w.heap.size + 1) = some (.cells #[.string t] 9 (0, 0)) from by rw [Mem.set_ne _ _ (Ne.symm hnsb2)]; exact nx)
  have NA := Lib.hid (((Env.refl w).alloc (.cells #[.pointer (some ⟨sb, 0, none⟩)] 25)).alloc (.cells #[.string t] 9))
  clear hm hr hG h0 hn h1 h2 l1 l2 l12 bx nx BG hGs hnsb hnsb2 frS hfr2 hfr hma hsz
  go_enter Tryz.func14, Tryz.ntmps14
  go_wp2_with fail
  clear c0
  generalize w.heap.size = pb at *
  refine HBG.out.mono ?_
  rintro e w2 ⟨v, m2, rfl, l2, h2, n2, ev, rfl, hev⟩
  have hsz := h2.fresh (Nat.le_refl w2.heap.size)
  have H2 := Lib.hid (h2.alloc (.cells #[.int .i64 g.now.1, .int .i64 g.now.2.1, .int .i64 g.now.2.2] 47))
  have l3 := Mem.le_set m2 (.cells #[.int .i64 g.now.1, .int .i64 g.now.2.1, .int .i64 g.now.2.2] 47) hsz
  have N2 := Lib.hid ((NA.out.trans n2).alloc (.cells #[.int .i64 g.now.1, .int .i64 g.now.2.1, .int .i64 g.now.2.2] 47))
  have HEV := Lib.hid (hev.le l3)
  have LL := Lib.hid (Mem.le_trans l2 l3)
  have c0 : w2.cell? ⟨pb, 0, none⟩ = some (.pointer (some ⟨sb, 0, none⟩)) := by rw [h2.cell (l2 _ _ BX.out)]; rfl
  have clt : pb < w2.heap.size := h2.lt (l2 _ _ BX.out)
  have c1 : w2.cell? ⟨pb + 1, 0, none⟩ = some (.string t) := by rw [h2.cell (l2 _ _ NX.out)]; rfl
  have clt1 : pb + 1 < w2.heap.size := h2.lt (l2 _ _ NX.out)
  clear l2 h2 n2 hev l3 hsz
  simp only [failV]
  go_wp2_with fail
  obtain ⟨w3, hw3⟩ : ∃ w3, w2.alloc (.cells #[.int .i64 g.now.1, .int .i64 g.now.2.1, .int .i64 g.now.2.2] 47) = w3 := ⟨_, rfl⟩
  rw [hw3] at H2 N2
  try rw [hw3]
  clear hw3
  obtain ⟨m3, hm3⟩ : ∃ m3, m2.set w2.heap.size (.cells #[.int .i64 g.now.1, .int .i64 g.now.2.1, .int .i64 g.now.2.2] 47) = m3 := ⟨_, rfl⟩
  rw [hm3] at H2 LL HEV
  clear hm3 c0 clt c1 clt1
  have R3 := Lib.hid (HR1.out.le LL.out)
  have BX3 := Lib.hid (LL.out _ _ BX.out)
  have NX3 := Lib.hid (LL.out _ _ NX.out)
  have H3 := H2
  have N3 := Lib.hid N2.out.drew
  have L3 := Lib.hid (Mem.le_refl m3)
  have c0 : w3.cell? ⟨pb, 0, none⟩ = some (.pointer (some ⟨sb, 0, none⟩)) := by rw [H2.out.cell BX3.out]; rfl
  have c1 : w3.cell? ⟨pb + 1, 0, none⟩ = some (.string t) := by rw [H2.out.cell NX3.out]; rfl
  refine wp_region_K 16 (fun w' => w'.cell? ⟨pb, 0, none⟩ = some (.pointer (some ⟨sb, 0, none⟩)) ∧ w'.cell? ⟨pb + 1, 0, none⟩ = some (.string t)) (by kernel_rfl) ?_
  have hS : (fun w' : World => w'.cell? ⟨pb, 0, none⟩ = some (.pointer (some ⟨sb, 0, none⟩)) ∧ w'.cell? ⟨pb + 1, 0, none⟩ = some (.string t)) w3.drew := ⟨c0, c1⟩
  refine wpAnyK_take (i := 0) (v := ?_) rfl (by kernel_rfl) (by kernel_rfl) (by kernel_rfl) (by kernel_rfl) (fun _ _ _ h => h) (Or.inl ⟨by rfl, ?_⟩) hS ?_
  rotate_left
  · intro w0 hS0; obtain ⟨q0, q1⟩ := hS0; go_simp; try with_reducible rfl
  simp only [Act.put, List.setIfInBounds_toArray, List.set_cons_zero, List.set_cons_succ, List.getElem_toArray, List.getElem_cons_succ, List.getElem_cons_zero]
  refine wpAnyK_take (i := 1) (v := ?_) rfl (by kernel_rfl) (by kernel_rfl) (by kernel_rfl) (by kernel_rfl) (fun _ _ _ h => h) (Or.inl ⟨by rfl, ?_⟩) hS ?_
  rotate_left
  · intro w0 hS0; obtain ⟨q0, q1⟩ := hS0; go_simp; try with_reducible rfl
  simp only [Act.put, List.setIfInBounds_toArray, List.set_cons_zero, List.set_cons_succ, List.getElem_toArray, List.getElem_cons_succ, List.getElem_cons_zero]
  refine wpAnyK_take (i := 3) (v := ?_) rfl (by kernel_rfl) (by kernel_rfl) (by kernel_rfl) (by kernel_rfl) (fun _ _ _ h => h) (Or.inl ⟨by rfl, ?_⟩) hS ?_
  rotate_left
  · intro w0 hS0; obtain ⟨q0, q1⟩ := hS0; go_simp; try with_reducible rfl
  simp only [Act.put, List.setIfInBounds_toArray, List.set_cons_zero, List.set_cons_succ, List.getElem_toArray, List.getElem_cons_succ, List.getElem_cons_zero]
  refine wpAnyK_take (i := 5) (v := ?_) rfl (by kernel_rfl) (by kernel_rfl) (by kernel_rfl) (by kernel_rfl) (fun _ _ _ h => h) (Or.inl ⟨by rfl, ?_⟩) hS ?_
  rotate_left
  · intro w0 hS0; obtain ⟨q0, q1⟩ := hS0; go_simp; try with_reducible rfl
  simp only [Act.put, List.setIfInBounds_toArray, List.set_cons_zero, List.set_cons_succ, List.getElem_toArray, List.getElem_cons_succ, List.getElem_cons_zero]
  refine wpAnyK_take (i := 6) (v := ?_) rfl (by kernel_rfl) (by kernel_rfl) (by kernel_rfl) (by kernel_rfl) (fun _ _ _ h => h) (Or.inl ⟨by rfl, ?_⟩) hS ?_
  rotate_left
  · intro w0 hS0; obtain ⟨q0, q1⟩ := hS0; go_simp; try with_reducible rfl
  simp only [Act.put, List.setIfInBounds_toArray, List.set_cons_zero, List.set_cons_succ, List.getElem_toArray, List.getElem_cons_succ, List.getElem_cons_zero]
  refine wpAnyK_take (i := 8) (v := ?_) rfl (by kernel_rfl) (by kernel_rfl) (by kernel_rfl) (by kernel_rfl) (fun _ _ _ h => h) (Or.inl ⟨by rfl, ?_⟩) hS ?_
  rotate_left
  · intro w0 hS0; obtain ⟨q0, q1⟩ := hS0; go_simp; try with_reducible rfl
  simp only [Act.put, List.setIfInBounds_toArray, List.set_cons_zero, List.set_cons_succ, List.getElem_toArray, List.getElem_cons_succ, List.getElem_cons_zero]
  refine wpAnyK_take (i := 9) (v := ?_) rfl (by kernel_rfl) (by kernel_rfl) (by kernel_rfl) (by kernel_rfl) (fun _ _ _ h => h) (Or.inl ⟨by rfl, ?_⟩) hS ?_
  rotate_left
  · intro w0 hS0; obtain ⟨q0, q1⟩ := hS0; go_simp; try with_reducible rfl
  simp only [Act.put, List.setIfInBounds_toArray, List.set_cons_zero, List.set_cons_succ, List.getElem_toArray, List.getElem_cons_succ, List.getElem_cons_zero]
  refine wpAnyK_take (i := 11) (v := ?_) rfl (by kernel_rfl) (by kernel_rfl) (by kernel_rfl) (by kernel_rfl) (fun _ _ _ h => h) (Or.inl ⟨by rfl, ?_⟩) hS ?_
  rotate_left
  · intro w0 hS0; obtain ⟨q0, q1⟩ := hS0; go_simp; try with_reducible rfl
  simp only [Act.put, List.setIfInBounds_toArray, List.set_cons_zero, List.set_cons_succ, List.getElem_toArray, List.getElem_cons_succ, List.getElem_cons_zero]
  clear hS c0 c1
  refine wpAnyK_one (i := 2) rfl (by kernel_rfl) rfl ?_
  go_simp
  refine (named_any s _ _ H3.out.drew).mono ?_
  rintro e1 w4 ⟨v1, m4, rfl, l4, h4, n4, hv1⟩
  obtain ⟨p1, q1, i1, hc1, _⟩ := hv1.imp (fun _ h => h)
  subst hc1
  have H4 := Lib.hid h4
  have N4 := Lib.hid (N3.out.trans n4)
  have L4 := Lib.hid (Mem.le_trans L3.out l4)
  have K1 := Lib.hid hv1
  have sa : w4.cell? ⟨pb, 0, none⟩ = some (.pointer (some ⟨sb, 0, none⟩)) := by rw [h4.cell (L4.out _ _ BX3.out)]; rfl
  have sc : w4.cell? ⟨pb + 1, 0, none⟩ = some (.string t) := by rw [h4.cell (L4.out _ _ NX3.out)]; rfl
  clear l4 h4 n4 hv1
  refine ⟨⟨sa, sc⟩, ?_⟩
  clear sa sc
  refine wpAnyK_one (i := 4) rfl (by kernel_rfl) rfl ?_
  go_simp
  refine (named_any t _ _ H4.out).mono ?_
  rintro e2 w5 ⟨v2, m5, rfl, l5, h5, n5, hv2⟩
  obtain ⟨p2, q2, i2, hc2, _⟩ := hv2.imp (fun _ h => h)
  subst hc2
  have H5 := Lib.hid h5
  have N5 := Lib.hid (N4.out.trans n5)
  have L5 := Lib.hid (Mem.le_trans L4.out l5)
  have K1 := Lib.hid (K1.out.le l5)
  have K2 := Lib.hid hv2
  have sa : w5.cell? ⟨pb, 0, none⟩ = some (.pointer (some ⟨sb, 0, none⟩)) := by rw [h5.cell (L5.out _ _ BX3.out)]; rfl
  have sc : w5.cell? ⟨pb + 1, 0, none⟩ = some (.string t) := by rw [h5.cell (L5.out _ _ NX3.out)]; rfl
  clear l5 h5 n5 hv2
  refine ⟨⟨sa, sc⟩, ?_⟩
  clear sa sc
  refine wpAnyK_one (i := 7) rfl (by kernel_rfl) rfl ?_
  go_simp
  refine (there_any sb _ s _ _ H5.out (R3.out.le L5.out)).mono ?_
  rintro e3 w6 ⟨v3, m6, rfl, l6, h6, n6, hv3⟩
  obtain ⟨p3, q3, i3, hc3, _⟩ := hv3.imp (fun _ h => h)
  subst hc3
  have H6 := Lib.hid h6
  have N6 := Lib.hid (N5.out.trans n6)
  have L6 := Lib.hid (Mem.le_trans L5.out l6)
  have K1 := Lib.hid (K1.out.le l6)
  have K2 := Lib.hid (K2.out.le l6)
  have K3 := Lib.hid hv3
  have sa : w6.cell? ⟨pb, 0, none⟩ = some (.pointer (some ⟨sb, 0, none⟩)) := by rw [h6.cell (L6.out _ _ BX3.out)]; rfl
  have sc : w6.cell? ⟨pb + 1, 0, none⟩ = some (.string t) := by rw [h6.cell (L6.out _ _ NX3.out)]; rfl
  clear l6 h6 n6 hv3
  refine ⟨⟨sa, sc⟩, ?_⟩
  clear sa sc
  refine wpAnyK_one (i := 10) rfl (by kernel_rfl) rfl ?_
  go_simp
  refine (shut_any sb _ s _ _ H6.out (R3.out.le L6.out)).mono ?_
  rintro e4 w7 ⟨v4, m7, rfl, l7, h7, n7, hv4⟩
  obtain ⟨p4, q4, i4, hc4, _⟩ := hv4.imp (fun _ h => h)
  subst hc4
  have H7 := Lib.hid h7
  have N7 := Lib.hid (N6.out.trans n7)
  have L7 := Lib.hid (Mem.le_trans L6.out l7)
  have K1 := Lib.hid (K1.out.le l7)
  have K2 := Lib.hid (K2.out.le l7)
  have K3 := Lib.hid (K3.out.le l7)
  have K4 := Lib.hid hv4
  have sa : w7.cell? ⟨pb, 0, none⟩ = some (.pointer (some ⟨sb, 0, none⟩)) := by rw [h7.cell (L7.out _ _ BX3.out)]; rfl
  have sc : w7.cell? ⟨pb + 1, 0, none⟩ = some (.string t) := by rw [h7.cell (L7.out _ _ NX3.out)]; rfl
  clear l7 h7 n7 hv4
  refine ⟨⟨sa, sc⟩, ?_⟩
  clear sa sc
  refine wpAnyK_one (i := 12) rfl (by kernel_rfl) rfl ?_
  go_simp
  refine (when_any (-69) _ _ ((getE g.L t).isSome) _ _ H7.out ⟨_, _, rfl, enters_taken1, fun w1 m1 l h1 => taken1_any pb (pb + 1) sb g.tick t w1 m1 h1 (R3.out.le (Mem.le_trans L7.out l)) (l _ _ (L7.out _ _ BX3.out)) (l _ _ (L7.out _ _ NX3.out))⟩).mono ?_
  rintro e5 w8 ⟨v5, m8, rfl, l8, h8, n8, hv5⟩
  obtain ⟨p5, q5, i5, hc5, _⟩ := hv5.imp (fun _ h => h)
  subst hc5
  have H8 := Lib.hid h8
  have N8 := Lib.hid (N7.out.trans n8)
  have L8 := Lib.hid (Mem.le_trans L7.out l8)
  have K1 := Lib.hid (K1.out.le l8)
  have K2 := Lib.hid (K2.out.le l8)
  have K3 := Lib.hid (K3.out.le l8)
  have K4 := Lib.hid (K4.out.le l8)
  have K5 := Lib.hid hv5
  have sa : w8.cell? ⟨pb, 0, none⟩ = some (.pointer (some ⟨sb, 0, none⟩)) := by rw [h8.cell (L8.out _ _ BX3.out)]; rfl
  have sc : w8.cell? ⟨pb + 1, 0, none⟩ = some (.string t) := by rw [h8.cell (L8.out _ _ NX3.out)]; rfl
  clear l8 h8 n8 hv5
  refine ⟨⟨sa, sc⟩, ?_⟩
  clear sa sc
  refine wpAnyK_one (i := 13) rfl (by kernel_rfl) rfl ?_
  go_simp
  have hal := H8.out.alloc (.cells #[.func (.func 78) #[] #[.pointer (some ⟨p1, 0, none⟩), .pointer (some ⟨q1, 0, none⟩)], .func (.func 78) #[] #[.pointer (some ⟨p2, 0, none⟩), .pointer (some ⟨q2, 0, none⟩)], .func (.func 78) #[] #[.pointer (some ⟨p3, 0, none⟩), .pointer (some ⟨q3, 0, none⟩)], .func (.func 78) #[] #[.pointer (some ⟨p4, 0, none⟩), .pointer (some ⟨q4, 0, none⟩)], .func (.func 78) #[] #[.pointer (some ⟨p5, 0, none⟩), .pointer (some ⟨q5, 0, none⟩)]] 74)
  have lal := Mem.le_set m8 (.cells #[.func (.func 78) #[] #[.pointer (some ⟨p1, 0, none⟩), .pointer (some ⟨q1, 0, none⟩)], .func (.func 78) #[] #[.pointer (some ⟨p2, 0, none⟩), .pointer (some ⟨q2, 0, none⟩)], .func (.func 78) #[] #[.pointer (some ⟨p3, 0, none⟩), .pointer (some ⟨q3, 0, none⟩)], .func (.func 78) #[] #[.pointer (some ⟨p4, 0, none⟩), .pointer (some ⟨q4, 0, none⟩)], .func (.func 78) #[] #[.pointer (some ⟨p5, 0, none⟩), .pointer (some ⟨q5, 0, none⟩)]] 74) (H8.out.fresh (Nat.le_refl _))
  refine ⟨⟨by rw [hal.cell (lal _ _ (L8.out _ _ BX3.out))]; rfl, by rw [hal.cell (lal _ _ (L8.out _ _ NX3.out))]; rfl⟩, ?_⟩
  refine wpAnyK_one (i := 14) rfl (by kernel_rfl) rfl ?_
  go_simp
  have FA := first_any ev g.now.2.1 w8.heap.size [(.func (.func 78) #[] #[.pointer (some ⟨p1, 0, none⟩), .pointer (some ⟨q1, 0, none⟩)], -38, !isNameB s), (.func (.func 78) #[] #[.pointer (some ⟨p2, 0, none⟩), .pointer (some ⟨q2, 0, none⟩)], -38, !isNameB t), (.func (.func 78) #[] #[.pointer (some ⟨p3, 0, none⟩), .pointer (some ⟨q3, 0, none⟩)], -38, (getE g.L s).isNone), (.func (.func 78) #[] #[.pointer (some ⟨p4, 0, none⟩), .pointer (some ⟨q4, 0, none⟩)], -69, g.O.any (isOf g.L s)), (.func (.func 78) #[] #[.pointer (some ⟨p5, 0, none⟩), .pointer (some ⟨q5, 0, none⟩)], -69, (getE g.L t).isSome)] _ _ hal ((HEV.out.le L8.out).le lal) (Mem.set_same _ _ _)
    (fun c hc => by
      simp only [List.mem_cons, List.not_mem_nil, or_false] at hc
      rcases hc with rfl | rfl | rfl | rfl | rfl
      · exact ⟨K1.out.le lal, show (-38 : Int) ≠ 0 by decide⟩
      · exact ⟨K2.out.le lal, show (-38 : Int) ≠ 0 by decide⟩
      · exact ⟨K3.out.le lal, show (-38 : Int) ≠ 0 by decide⟩
      · exact ⟨K4.out.le lal, show (-69 : Int) ≠ 0 by decide⟩
      · exact ⟨K5.out.le lal, show (-69 : Int) ≠ 0 by decide⟩) (by simp)
  refine FA.mono ?_
  rintro e9 w9 ⟨v9, m9, rfl, l9, h9, n9, hv9⟩
  have hX := firstOf_ren_g R3.out s t (.func (.func 78) #[] #[.pointer (some ⟨p1, 0, none⟩), .pointer (some ⟨q1, 0, none⟩)]) (.func (.func 78) #[] #[.pointer (some ⟨p2, 0, none⟩), .pointer (some ⟨q2, 0, none⟩)]) (.func (.func 78) #[] #[.pointer (some ⟨p3, 0, none⟩), .pointer (some ⟨q3, 0, none⟩)]) (.func (.func 78) #[] #[.pointer (some ⟨p4, 0, none⟩), .pointer (some ⟨q4, 0, none⟩)]) (.func (.func 78) #[] #[.pointer (some ⟨p5, 0, none⟩), .pointer (some ⟨q5, 0, none⟩)])
  rw [hX] at hv9
  have L9 := Lib.hid (Mem.le_trans L8.out (Mem.le_trans lal l9))
  have H9 := Lib.hid h9
  have N9 := Lib.hid ((N8.out.alloc (.cells #[.func (.func 78) #[] #[.pointer (some ⟨p1, 0, none⟩), .pointer (some ⟨q1, 0, none⟩)], .func (.func 78) #[] #[.pointer (some ⟨p2, 0, none⟩), .pointer (some ⟨q2, 0, none⟩)], .func (.func 78) #[] #[.pointer (some ⟨p3, 0, none⟩), .pointer (some ⟨q3, 0, none⟩)], .func (.func 78) #[] #[.pointer (some ⟨p4, 0, none⟩), .pointer (some ⟨q4, 0, none⟩)], .func (.func 78) #[] #[.pointer (some ⟨p5, 0, none⟩), .pointer (some ⟨q5, 0, none⟩)]] 74)).trans n9)
  have V9 := Lib.hid hv9
  have R9 := Lib.hid (R3.out.le L9.out)
  have sa : w9.cell? ⟨pb, 0, none⟩ = some (.pointer (some ⟨sb, 0, none⟩)) := by rw [h9.cell (L9.out _ _ BX3.out)]; rfl
  have sc : w9.cell? ⟨pb + 1, 0, none⟩ = some (.string t) := by rw [h9.cell (L9.out _ _ NX3.out)]; rfl
  clear hal lal FA l9 h9 n9 hv9 hX
  refine ⟨⟨sa, sc⟩, ?_⟩
  refine wpAnyK_one (i := 15) rfl (by kernel_rfl) rfl ?_
  go_simp
  refine wpAnyK_done (by kernel_rfl) ?_ _
  by_cases hx : g.abs.renX s t = 0
  · obtain rfl : v9 = .nilIface := by
      rcases V9.out with ⟨_, h⟩ | ⟨h, _⟩
      · exact h
      · exact absurd hx h
    have HX := Lib.hid hx
    obtain ⟨hnt, hls, hus, hlt⟩ := renX_zero hx
    obtain ⟨e, he⟩ : ∃ e, getE g.L s = some e := by
      rw [abs_none] at hls
      cases hg : getE g.L s with
      | some e => exact ⟨e, rfl⟩
      | none => rw [hg] at hls; cases hls
    have het : getE g.L t = none := by
      cases hg : getE g.L t with
      | none => rfl
      | some d =>
        have h1 : g.abs.look t = (getE g.L t).map (·.bs) := rfl
        rw [h1, hg] at hlt; cases hlt
    have r9 := R9.out
    have hnu : ∀ h', some h' ∈ g.O → h'.name ≠ s := not_used (g := g.tick) r9 hus
    have HE := Lib.hid he
    have RD := Lib.hid (r9.ren (g := g.tick) he hnu het hnt)
    have AD := Lib.hid (abs_ren (g := g.tick) r9 he het g.clock)
    have hup := run_updateF g.mb g.clock g.L ({ e with name := t, born := g.clock } : Ent)
    rw [put_new het g.clock ({ e with name := t, born := g.clock } : Ent) rfl] at hup
    dsimp only at hup
    have hdl : ∀ w0 : World, w0.heap[g.mb]? = some (.map ((g.L ++ [({ e with name := t, born := g.clock } : Ent)]).map Ent.entry).toArray (g.clock + 1)) → (Builtin.delete_ #[68, 9] 0 #[.map (some g.mb), .string s]).run Tryz.prog w0 = .ok (.tuple #[]) (setObjW w0 g.mb (mapObj (dropE (g.L ++ [({ e with name := t, born := g.clock } : Ent)]) s) (g.clock + 1))) := fun w0 h => run_deleteF g.mb (g.clock + 1) (g.L ++ [({ e with name := t, born := g.clock } : Ent)]) s w0 h
    have hdr : dropE (g.L ++ [({ e with name := t, born := g.clock } : Ent)]) s = renE g.L s t e g.clock := drop_append he _
    rw [hdr] at hdl
    have hlk : ∀ w0 : World, w0.heap[g.mb]? = some (.map (g.L.map Ent.entry).toArray g.clock) → (Instr.lookup 68 (.map (some g.mb)) (.string s) false).run Tryz.prog w0 = .ok (.pointer (some ⟨e.fb, 0, none⟩)) w0 := fun w0 h => by
      rw [run_lookupF g.mb g.clock g.L s w0 h, lookV_some he]
    have k2 : w9.cell? ⟨sb, 0, none⟩ = some (.map (some g.mb)) := by rw [H9.out.cell r9.store]; rfl
    have k3 : w9.heap[g.mb]? = some (.map (g.L.map Ent.entry).toArray g.clock) := H9.out _ _ r9.map
    have nb : pb ≠ g.mb := fun h => by have h1 := L9.out _ _ BX3.out; rw [h, r9.map] at h1; cases h1
    have nn : pb + 1 ≠ g.mb := fun h => by have h1 := L9.out _ _ NX3.out; rw [h, r9.map] at h1; cases h1
    have ns : sb ≠ g.mb := fun h => by have h1 := r9.store; rw [h, r9.map] at h1; cases h1
    have HA := Lib.hid (H9.out.drew.setObj r9.map (mapObj (g.L ++ [({ e with name := t, born := g.clock } : Ent)]) (g.clock + 1)))
    have bA := L9.out _ _ BX3.out
    rw [← Mem.set_ne m9 (mapObj (g.L ++ [({ e with name := t, born := g.clock } : Ent)]) (g.clock + 1)) nb] at bA
    have nA := L9.out _ _ NX3.out
    rw [← Mem.set_ne m9 (mapObj (g.L ++ [({ e with name := t, born := g.clock } : Ent)]) (g.clock + 1)) nn] at nA
    have sA := r9.store
    rw [← Mem.set_ne m9 (mapObj (g.L ++ [({ e with name := t, born := g.clock } : Ent)]) (g.clock + 1)) ns] at sA
    have HB := Lib.hid (HA.out.setObj (Mem.set_same _ _ _) (mapObj (renE g.L s t e g.clock) (g.clock + 1)))
    have c7 : (setObjW w9.drew g.mb (mapObj (g.L ++ [({ e with name := t, born := g.clock } : Ent)]) (g.clock + 1))).cell? ⟨pb, 0, none⟩ = some (.pointer (some ⟨sb, 0, none⟩)) := by rw [HA.out.cell bA]; rfl
    have c8 : (setObjW w9.drew g.mb (mapObj (g.L ++ [({ e with name := t, born := g.clock } : Ent)]) (g.clock + 1))).cell? ⟨sb, 0, none⟩ = some (.map (some g.mb)) := by rw [HA.out.cell sA]; rfl
    have hdA := hdl (setObjW w9.drew g.mb (mapObj (g.L ++ [({ e with name := t, born := g.clock } : Ent)]) (g.clock + 1))) (HA.out _ _ (Mem.set_same _ _ _))
    have hupA := hup w9.drew k3
    rw [Mem.set_set] at HB
    have HBx := Lib.hid HB.out
    have s0 := HA.out.lt sA
    have s1 := HA.out.lt bA
    clear hx he r9 hnu het hls hus hlt hup hdl hdr HA nA bA sA ns nn nb HB
    go_wp2_with fail
    refine wp_region_K 11 (fun w' => w'.cell? ⟨pb, 0, none⟩ = some (.pointer (some ⟨sb, 0, none⟩)) ∧ w'.cell? ⟨pb + 1, 0, none⟩ = some (.string t) ∧ w'.cell? ⟨sb, 0, none⟩ = some (.map (some g.mb)) ∧ w'.heap[g.mb]? = some (.map (g.L.map Ent.entry).toArray g.clock)) (by kernel_rfl) ?_
    have hS : (fun w' : World => w'.cell? ⟨pb, 0, none⟩ = some (.pointer (some ⟨sb, 0, none⟩)) ∧ w'.cell? ⟨pb + 1, 0, none⟩ = some (.string t) ∧ w'.cell? ⟨sb, 0, none⟩ = some (.map (some g.mb)) ∧ w'.heap[g.mb]? = some (.map (g.L.map Ent.entry).toArray g.clock)) w9.drew := ⟨sa, sc, k2, k3⟩
    refine wpAnyK_take (i := 0) (v := ?_) rfl (by kernel_rfl) (by kernel_rfl) (by kernel_rfl) (by kernel_rfl) (fun _ _ _ h => h) (Or.inl ⟨by rfl, ?_⟩) hS ?_
    rotate_left
    · intro w0 hS0; obtain ⟨q0, q1, q2, q3⟩ := hS0; go_simp; try with_reducible rfl
    simp only [Act.put, List.setIfInBounds_toArray, List.set_cons_zero, List.set_cons_succ, List.getElem_toArray, List.getElem_cons_succ, List.getElem_cons_zero]
    refine wpAnyK_take (i := 1) (v := ?_) rfl (by kernel_rfl) (by kernel_rfl) (by kernel_rfl) (by kernel_rfl) (fun _ _ _ h => h) (Or.inl ⟨by rfl, ?_⟩) hS ?_
    rotate_left
    · intro w0 hS0; obtain ⟨q0, q1, q2, q3⟩ := hS0; go_simp; try with_reducible rfl
    simp only [Act.put, List.setIfInBounds_toArray, List.set_cons_zero, List.set_cons_succ, List.getElem_toArray, List.getElem_cons_succ, List.getElem_cons_zero]
    refine wpAnyK_take (i := 2) (v := ?_) rfl (by kernel_rfl) (by kernel_rfl) (by kernel_rfl) (by kernel_rfl) (fun _ _ _ h => h) (Or.inl ⟨by rfl, ?_⟩) hS ?_
    rotate_left
    · intro w0 hS0; obtain ⟨q0, q1, q2, q3⟩ := hS0; go_simp; try with_reducible rfl
    simp only [Act.put, List.setIfInBounds_toArray, List.set_cons_zero, List.set_cons_succ, List.getElem_toArray, List.getElem_cons_succ, List.getElem_cons_zero]
    refine wpAnyK_take (i := 3) (v := ?_) rfl (by kernel_rfl) (by kernel_rfl) (by kernel_rfl) (by kernel_rfl) (fun _ _ _ h => h) (Or.inl ⟨by rfl, ?_⟩) hS ?_
    rotate_left
    · intro w0 hS0; obtain ⟨q0, q1, q2, q3⟩ := hS0; go_simp; try with_reducible rfl
    simp only [Act.put, List.setIfInBounds_toArray, List.set_cons_zero, List.set_cons_succ, List.getElem_toArray, List.getElem_cons_succ, List.getElem_cons_zero]
    refine wpAnyK_take (i := 4) (v := ?_) rfl (by kernel_rfl) (by kernel_rfl) (by kernel_rfl) (by kernel_rfl) (fun _ _ _ h => h) (Or.inl ⟨by rfl, ?_⟩) hS ?_
    rotate_left
    · intro w0 hS0; obtain ⟨q0, q1, q2, q3⟩ := hS0; go_simp; try with_reducible rfl
    simp only [Act.put, List.setIfInBounds_toArray, List.set_cons_zero, List.set_cons_succ, List.getElem_toArray, List.getElem_cons_succ, List.getElem_cons_zero]
    refine wpAnyK_take (i := 5) (v := ?_) rfl (by kernel_rfl) (by kernel_rfl) (by kernel_rfl) (by kernel_rfl) (fun _ _ _ h => h) (Or.inl ⟨by rfl, ?_⟩) hS ?_
    rotate_left
    · intro w0 hS0; obtain ⟨q0, q1, q2, q3⟩ := hS0; go_simp; try with_reducible rfl
    simp only [Act.put, List.setIfInBounds_toArray, List.set_cons_zero, List.set_cons_succ, List.getElem_toArray, List.getElem_cons_succ, List.getElem_cons_zero]
    refine wpAnyK_take (i := 6) (v := ?_) rfl (by kernel_rfl) (by kernel_rfl) (by kernel_rfl) (by kernel_rfl) (fun _ _ _ h => h) (Or.inl ⟨by rfl, ?_⟩) hS ?_
    rotate_left
    · intro w0 hS0; obtain ⟨q0, q1, q2, q3⟩ := hS0; go_simp; try with_reducible rfl
    simp only [Act.put, List.setIfInBounds_toArray, List.set_cons_zero, List.set_cons_succ, List.getElem_toArray, List.getElem_cons_succ, List.getElem_cons_zero]
    refine wpAnyK_take (i := 7) (v := ?_) rfl (by kernel_rfl) (by kernel_rfl) (by kernel_rfl) (by kernel_rfl) (fun _ _ _ h => h) (Or.inl ⟨by rfl, ?_⟩) hS ?_
    rotate_left
    · intro w0 hS0; obtain ⟨q0, q1, q2, q3⟩ := hS0; go_simp; try with_reducible rfl
    simp only [Act.put, List.setIfInBounds_toArray, List.set_cons_zero, List.set_cons_succ, List.getElem_toArray, List.getElem_cons_succ, List.getElem_cons_zero]
    refine wpAnyK_take (i := 8) (v := ?_) rfl (by kernel_rfl) (by kernel_rfl) (by kernel_rfl) (by kernel_rfl) (fun _ _ _ h => h) (Or.inl ⟨by rfl, ?_⟩) hS ?_
    rotate_left
    · intro w0 hS0; obtain ⟨q0, q1, q2, q3⟩ := hS0; go_simp; try with_reducible rfl
    simp only [Act.put, List.setIfInBounds_toArray, List.set_cons_zero, List.set_cons_succ, List.getElem_toArray, List.getElem_cons_succ, List.getElem_cons_zero]
    refine wpAnyK_take (i := 9) (v := ?_) rfl (by kernel_rfl) (by kernel_rfl) (by kernel_rfl) (by kernel_rfl) (fun _ _ _ h => h) (Or.inl ⟨by rfl, ?_⟩) hS ?_
    rotate_left
    · intro w0 hS0; obtain ⟨q0, q1, q2, q3⟩ := hS0; go_simp; try with_reducible rfl
    simp only [Act.put, List.setIfInBounds_toArray, List.set_cons_zero, List.set_cons_succ, List.getElem_toArray, List.getElem_cons_succ, List.getElem_cons_zero]
    refine wpAnyK_take (i := 10) (v := ?_) rfl (by kernel_rfl) (by kernel_rfl) (by kernel_rfl) (by kernel_rfl) (fun _ _ _ h => h) (Or.inl ⟨by rfl, ?_⟩) hS ?_
    rotate_left
    · intro w0 hS0; obtain ⟨q0, q1, q2, q3⟩ := hS0; go_simp; try with_reducible rfl
    simp only [Act.put, List.setIfInBounds_toArray, List.set_cons_zero, List.set_cons_succ, List.getElem_toArray, List.getElem_cons_succ, List.getElem_cons_zero]
    refine wpAnyK_one (i := 11) rfl (by kernel_rfl) rfl ?_
    refine wp_upd 68 (.tmp 38) (.tmp 39) (.tmp 45) rfl rfl rfl rfl hupA ?_
    refine ⟨fun h => absurd h (by decide), wpAnyK_done (by kernel_rfl) ?_ _⟩
    clear hS hlk k2 k3 sa sc hupA
    go_wp2_with (at_builtin; refine wpList_b2 rfl .delete Builtin.delete_ (fun _ _ _ _ => rfl) _ _ _ _ rfl rfl rfl hdA ?_)
    have g9 : GlobOk m9 := (HG1.out.le LL.out).le L9.out
    have fS : Fr m9 (m9.set g.mb (mapObj (renE g.L s t e g.clock) (g.clock + 1))) (FP sb g) (FP sb { g.tick with L := renE g.L s t e g.clock, clock := g.clock + 1 }) := (Fr.set (P := FP sb g) _ (.inl (.inr (.inl rfl)))).mono (fun b hb => .inl (FP_ren (g := g.tick) HE.out hb))
    have gS : GlobOk (m9.set g.mb (mapObj (renE g.L s t e g.clock) (g.clock + 1))) := fS.glob H0.out g9
    refine (ior_any .nilIface 0 _ _ HBx.out gS (.inl ⟨rfl, rfl⟩)).mono ?_
    rintro e1 w10 ⟨v10, m10, rfl, l10, h10, n10, rfl⟩
    have L10 := Lib.hid l10
    have H10 := Lib.hid h10
    have N10 := Lib.hid (((N9.out.drew.setObj _ _).setObj _ _).trans n10)
    have FS := Lib.hid fS
    clear l10 h10 n10 g9 gS fS
    go_wp2_with fail
    go_ret
    have hF : g.abs.renF s t = (g.abs.tick.ren s t, 0, ()) := by unfold A.renF; rw [if_neg (fun c => c HX.out)]
    rw [hF]
    exact ⟨_, m10, rfl, H10.out, N10.out, OpR.ahead (F := (g.abs.tick.ren s t, 0, ())) (X := fun _ _ => True) ⟨_, RD.out.le L10.out, ((FRS.out.le (Mem.le_trans LL.out L9.out)).trans (((FS.out.le L10.out).more (fun _ => False)))).mono (fun b hb => .inr (.inl hb)), AD.out, rfl, trivial⟩ L1.out (fun _ h => h.elim) (fun h => h)⟩
  · obtain ⟨b4, hb4⟩ : ∃ b, v9 = .iface 104 (.pointer (some ⟨b, 0, none⟩)) := by
      rcases V9.out with ⟨h, _⟩ | ⟨_, b, h, _⟩
      · exact absurd h hx
      · exact ⟨b, h⟩
    subst hb4
    have HX := Lib.hid hx
    clear hx sa sc
    go_wp2_with fail
    have g9 : GlobOk m9 := (HG1.out.le LL.out).le L9.out
    refine (ior_any _ _ _ _ (by first | exact H9.out | exact H9.out.drewN _ | exact H9.out.drew) g9 V9.out).mono ?_
    rintro e1 w10 ⟨v10, m10, rfl, l10, h10, n10, rfl⟩
    have L10 := Lib.hid (Mem.le_trans LL.out (Mem.le_trans L9.out l10))
    have H10 := Lib.hid h10
    have N10 := Lib.hid (N9.out.trans n10)
    clear l10 h10 n10 g9
    go_wp2_with fail
    go_ret
    have hF : g.abs.renF s t = (g.abs.tick, g.abs.renX s t, ()) := by unfold A.renF; rw [if_pos HX.out]
    rw [hF]
    exact ⟨_, m10, rfl, H10.out, N10.out, OpR.ahead (F := (g.abs.tick, g.abs.renX s t, ())) (X := fun _ _ => True) ⟨g.tick, HR1.out.le L10.out, (FRS.out.le L10.out).mono (fun b hb => .inl (.inl hb)), rfl, rfl, trivial⟩ L1.out (fun _ h => h.elim) (fun h => h)⟩
end Go.Proofs.YtcdmdkgiabfbeaaGreatDoor
