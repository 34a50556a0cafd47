/-
  A call on both stores is answered alike: bytes that are read (printed by does_gen.py)
-/
import Derived.Test.YtcdmdkgiabfbeaaGreatDoorK19
import Derived.Test.YtcdmdkgiabfbeaaGreatDoorK25
import Derived.Test.YtcdmdkgiabfbeaaGreatDoorK24
import Derived.Test.YtcdmdkgiabfbeaaGreatDoorK13
namespace Go.Proofs.YtcdmdkgiabfbeaaGreatDoor
open Go.RowKit

set_option maxHeartbeats 2000000 in
set_option maxRecDepth 100000 in
theorem does_read (sb rb : Nat) (nm to : ByteArray) (id n : Int) (bv : Value) (bs : List UInt8) (g : G) (r : RG) (w : World) (m : Mem) (hm : Has w m) (h : Two m sb rb g r) (hG : GlobOk m) (h0 : ¬ PP sb rb g r 0) (hn : g.n ≤ 9998) :
    Calls Tryz.prog 20 #[.pointer (some ⟨sb, 0, none⟩), .pointer (some ⟨rb, 0, none⟩), .agg #[.int .i64 11, .string nm, .string to, .int .i64 id, .int .i64 n, bv]] w (DoesR w m sb rb g r (g.abs.withA id [] (readF (id - 1).toNat n)).1) := by
  have hfr := hm.fresh (Nat.le_refl w.heap.size)
  have L := Mem.le_set m (.cells #[.int .i64 11, .string nm, .string to, .int .i64 id, .int .i64 n, bv] 28) hfr
  have HM := Lib.hid (hm.alloc (.cells #[.int .i64 11, .string nm, .string to, .int .i64 id, .int .i64 n, bv] 28))
  have hkn : ∀ b, PP sb rb g r b → b ≠ w.heap.size := fun b hb e => by
    obtain ⟨o, ho⟩ := h.known hb
    rw [e, hfr] at ho; cases ho
  have h' := h.le L
  have hb : (m.set w.heap.size (.cells #[.int .i64 11, .string nm, .string to, .int .i64 id, .int .i64 n, bv] 28)) w.heap.size = some (.cells #[.int .i64 11, .string nm, .string to, .int .i64 id, .int .i64 n, bv] 28) := Mem.set_same _ _ _
  have hG' := hG.le L
  have FR0 := Lib.hid (Fr.of_le L (PP sb rb g r))
  obtain ⟨m', hm'⟩ : ∃ m', m.set w.heap.size (.cells #[.int .i64 11, .string nm, .string to, .int .i64 id, .int .i64 n, bv] 28) = m' := ⟨_, rfl⟩
  rw [hm'] at HM FR0
  have HT := Lib.hid h'
  rw [hm'] at HT
  have HB := Lib.hid hb
  rw [hm'] at HB
  have HKN := Lib.hid hkn
  rw [hm'] at hG' L
  have n0 : Env w (w.alloc (.cells #[.int .i64 11, .string nm, .string to, .int .i64 id, .int .i64 n, bv] 28)) := (Env.refl w).alloc _
  have N0 := Lib.hid n0
  have HO := Lib.hid (read_any sb id n g _ m' HM.out HT.out.st hG' (fun x => h0 (.inl x)) (by omega))
  obtain ⟨F, hF⟩ : ∃ F, g.abs.withA id [] (readF (id - 1).toNat n) = F := ⟨_, rfl⟩
  have hF2 : r.abs.withA id [] (readF (id - 1).toNat n) = F := by rw [h.eq]; exact hF
  rw [hF] at HO
  rw [hF]
  have HF2 := Lib.hid hF2
  have hn2 : r.n ≤ 9998 := by rw [h.n]; exact hn
  clear hm h hG h0 hF hF2 h' hb hm' hkn n0 hfr L hG'
  obtain ⟨a1, x, i⟩ := F
  go_enter Tryz.func20, Tryz.ntmps20
  go_wp2_with fail
  refine HO.out.mono ?_
  rintro e w1 ⟨v, y, m1, rfl, h1, n1, o1⟩
  obtain ⟨g1, mid, ha, hx, hv⟩ := HT.out.fst o1
  simp only at ha hx hv
  subst hx
  obtain ⟨va, vc, rfl, _⟩ := hv.1.lenV
  have hb1 : m1 w.heap.size = some (.cells #[.int .i64 11, .string nm, .string to, .int .i64 id, .int .i64 n, bv] 28) := mid.fr.keep _ _ HB.out (fun hp => HKN.out _ (.inl hp) rfl)
  have c1 : w1.cell? ⟨w.heap.size, 1, none⟩ = some (.string nm) := by rw [h1.cell hb1]; rfl
  have c2 : w1.cell? ⟨w.heap.size, 2, none⟩ = some (.string to) := by rw [h1.cell hb1]; rfl
  have c3 : w1.cell? ⟨w.heap.size, 3, none⟩ = some (.int .i64 id) := by rw [h1.cell hb1]; rfl
  have c4 : w1.cell? ⟨w.heap.size, 4, none⟩ = some (.int .i64 n) := by rw [h1.cell hb1]; rfl
  have c5 : w1.cell? ⟨w.heap.size, 5, none⟩ = some bv := by rw [h1.cell hb1]; rfl
  have blt := h1.lt hb1
  have N1 := Lib.hid (N0.out.trans n1)
  have H1 := Lib.hid h1
  have MID := Lib.hid mid
  have HA := Lib.hid ha
  have HV := Lib.hid hv
  clear h1 n1 o1 mid ha HO hb1 hv
  go_wp2_with fail
  refine (read_ref rb id n r w1 m1 H1.out MID.out.rf (by omega)).mono ?_
  rintro e w2 ⟨u, z, m2, rfl, h2, n2, o2⟩
  rw [HF2.out] at o2
  obtain ⟨r2, t2, fr, hz, hu, fr2⟩ := MID.out.snd o2 HA.out
  simp only at hz hu
  subst hz
  have hv2 := HV.out.snd HT.out.rf fr2
  have CA := conv_back (row_wind hv2.1) w2 h2
  have CB := conv_back (row_wind hu.1) w2 h2
  have H2 := Lib.hid h2
  have HV2 := Lib.hid hv2
  have HU := Lib.hid hu
  obtain ⟨ua, uc, rfl, _⟩ := hu.1.lenV
  have R := Lib.hid (show ∀ wx, Has wx m2 → Env w2 wx → DoesR w m sb rb g r a1 (.returned (.bool true)) wx from fun wx hx nx => ⟨m2, g1, r2, rfl, hx, (N1.out.trans n2).trans nx, t2, HA.out, FR0.out.trans fr⟩)
  clear h2 n2 o2 t2 fr fr2 hv2 hu
  go_wp2_with fail
  go_ret
  exact R.out _ H2.out (Env.refl _)

set_option maxHeartbeats 2000000 in
set_option maxRecDepth 100000 in
theorem does_line (sb rb : Nat) (nm to : ByteArray) (id n : Int) (bv : Value) (bs : List UInt8) (g : G) (r : RG) (w : World) (m : Mem) (hm : Has w m) (h : Two m sb rb g r) (hG : GlobOk m) (h0 : ¬ PP sb rb g r 0) (hn : g.n ≤ 9998) :
    Calls Tryz.prog 20 #[.pointer (some ⟨sb, 0, none⟩), .pointer (some ⟨rb, 0, none⟩), .agg #[.int .i64 12, .string nm, .string to, .int .i64 id, .int .i64 n, bv]] w (DoesR w m sb rb g r (g.abs.withA id ([], false) (lineF (id - 1).toNat n)).1) := by
  have hfr := hm.fresh (Nat.le_refl w.heap.size)
  have L := Mem.le_set m (.cells #[.int .i64 12, .string nm, .string to, .int .i64 id, .int .i64 n, bv] 28) hfr
  have HM := Lib.hid (hm.alloc (.cells #[.int .i64 12, .string nm, .string to, .int .i64 id, .int .i64 n, bv] 28))
  have hkn : ∀ b, PP sb rb g r b → b ≠ w.heap.size := fun b hb e => by
    obtain ⟨o, ho⟩ := h.known hb
    rw [e, hfr] at ho; cases ho
  have h' := h.le L
  have hb : (m.set w.heap.size (.cells #[.int .i64 12, .string nm, .string to, .int .i64 id, .int .i64 n, bv] 28)) w.heap.size = some (.cells #[.int .i64 12, .string nm, .string to, .int .i64 id, .int .i64 n, bv] 28) := Mem.set_same _ _ _
  have hG' := hG.le L
  have FR0 := Lib.hid (Fr.of_le L (PP sb rb g r))
  obtain ⟨m', hm'⟩ : ∃ m', m.set w.heap.size (.cells #[.int .i64 12, .string nm, .string to, .int .i64 id, .int .i64 n, bv] 28) = m' := ⟨_, rfl⟩
  rw [hm'] at HM FR0
  have HT := Lib.hid h'
  rw [hm'] at HT
  have HB := Lib.hid hb
  rw [hm'] at HB
  have HKN := Lib.hid hkn
  rw [hm'] at hG' L
  have n0 : Env w (w.alloc (.cells #[.int .i64 12, .string nm, .string to, .int .i64 id, .int .i64 n, bv] 28)) := (Env.refl w).alloc _
  have N0 := Lib.hid n0
  have HO := Lib.hid (line_any sb id n g _ m' HM.out HT.out.st hG' (fun x => h0 (.inl x)) (by omega))
  obtain ⟨F, hF⟩ : ∃ F, g.abs.withA id ([], false) (lineF (id - 1).toNat n) = F := ⟨_, rfl⟩
  have hF2 : r.abs.withA id ([], false) (lineF (id - 1).toNat n) = F := by rw [h.eq]; exact hF
  rw [hF] at HO
  rw [hF]
  have HF2 := Lib.hid hF2
  have hn2 : r.n ≤ 9998 := by rw [h.n]; exact hn
  clear hm h hG h0 hF hF2 h' hb hm' hkn n0 hfr L hG'
  obtain ⟨a1, x, il, im⟩ := F
  go_enter Tryz.func20, Tryz.ntmps20
  go_wp2_with fail
  refine HO.out.mono ?_
  rintro e w1 ⟨v, q, y, m1, rfl, h1, n1, o1⟩
  obtain ⟨g1, mid, ha, hx, hv, hq⟩ := HT.out.fst o1
  simp only at ha hx hv hq
  subst hx hq
  obtain ⟨va, vc, rfl, _⟩ := hv.1.lenV
  have hb1 : m1 w.heap.size = some (.cells #[.int .i64 12, .string nm, .string to, .int .i64 id, .int .i64 n, bv] 28) := mid.fr.keep _ _ HB.out (fun hp => HKN.out _ (.inl hp) rfl)
  have c1 : w1.cell? ⟨w.heap.size, 1, none⟩ = some (.string nm) := by rw [h1.cell hb1]; rfl
  have c2 : w1.cell? ⟨w.heap.size, 2, none⟩ = some (.string to) := by rw [h1.cell hb1]; rfl
  have c3 : w1.cell? ⟨w.heap.size, 3, none⟩ = some (.int .i64 id) := by rw [h1.cell hb1]; rfl
  have c4 : w1.cell? ⟨w.heap.size, 4, none⟩ = some (.int .i64 n) := by rw [h1.cell hb1]; rfl
  have c5 : w1.cell? ⟨w.heap.size, 5, none⟩ = some bv := by rw [h1.cell hb1]; rfl
  have blt := h1.lt hb1
  have N1 := Lib.hid (N0.out.trans n1)
  have H1 := Lib.hid h1
  have MID := Lib.hid mid
  have HA := Lib.hid ha
  have HV := Lib.hid hv
  clear h1 n1 o1 mid ha HO hb1 hv
  go_wp2_with fail
  refine (line_ref rb id n r w1 m1 H1.out MID.out.rf (by omega)).mono ?_
  rintro e w2 ⟨u, q2, z, m2, rfl, h2, n2, o2⟩
  rw [HF2.out] at o2
  obtain ⟨r2, t2, fr, hz, ⟨hu, hq⟩, fr2⟩ := MID.out.snd o2 HA.out
  simp only at hz hu hq
  subst hz hq
  have hv2 := HV.out.snd HT.out.rf fr2
  have CA := conv_back (row_wind hv2.1) w2 h2
  have CB := conv_back (row_wind hu.1) w2 h2
  have H2 := Lib.hid h2
  have HV2 := Lib.hid hv2
  have HU := Lib.hid hu
  obtain ⟨ua, uc, rfl, _⟩ := hu.1.lenV
  have R := Lib.hid (show ∀ wx, Has wx m2 → Env w2 wx → DoesR w m sb rb g r a1 (.returned (.bool true)) wx from fun wx hx nx => ⟨m2, g1, r2, rfl, hx, (N1.out.trans n2).trans nx, t2, HA.out, FR0.out.trans fr⟩)
  clear h2 n2 o2 t2 fr fr2 hv2 hu
  go_wp2_with fail
  go_ret
  exact R.out _ H2.out (Env.refl _)

end Go.Proofs.YtcdmdkgiabfbeaaGreatDoor

/-
  The document's Write. (printed by refw_gen.py)
-/
namespace Go.Proofs.YtcdmdkgiabfbeaaGreatDoor
open Go.RowKit

theorem flat_same {α : Type} (c : α → List Value) : ∀ (F : List α) (k : Nat) (f f' : α), F[k]? = some f → c f' = c f → (F.set k f').flatMap c = F.flatMap c
  | [], _, _, _, h, _ => by simp at h
  | a :: F, 0, f, f', h, hc => by
    have ha : a = f := by simpa using h
    subst ha
    simp only [List.set_cons_zero, List.flatMap_cons, hc]
  | a :: F, k + 1, f, f', h, hc => by
    simp only [List.set_cons_succ, List.flatMap_cons]
    rw [flat_same c F k f f' (by simpa using h) hc]

theorem RRep.sepI {m : Mem} {rb : Nat} {r : RG} (h : RRep m rb r) (i j : Nat) (d d' : RF) (hij : i ≠ j) (hi : r.F[i]? = some d) (hj : r.F[j]? = some d') (b : Nat) (hb : d.bv.ownBlock = some b) : d'.bv.ownBlock ≠ some b := fun hb' => by
  obtain ⟨hil, rfl⟩ := List.getElem?_eq_some_iff.1 hi
  obtain ⟨hjl, rfl⟩ := List.getElem?_eq_some_iff.1 hj
  have hp := List.pairwise_iff_getElem.1 h.sep
  rcases Nat.lt_or_gt_of_ne hij with c | c
  · exact hp i j hil hjl c b hb hb'
  · exact hp j i hjl hil c b hb' hb

/-- A byte of a file, written. -/
theorem RR.setByte {m : Mem} {rb : Nat} {r : RG} (h : RR m rb r) {k : Nat} {f : RF} (hk : r.F[k]? = some f) (hk0 : k ≠ 0) (hf : f.name ≠ ⟨#[]⟩) {g : Nat} (hg : f.bv.ownBlock = some g) (p : Nat) (hp : p < f.bs.length) (x : UInt8) {w : World} (hm : Has w m) :
    ∃ m2, Has (w.setCell ⟨g, p, none⟩ (byteV x)) m2 ∧ RR m2 rb { r with F := r.F.set k { f with bs := f.bs.set p x } } ∧ Fr m m2 (RFP rb r) (RFP rb { r with F := r.F.set k { f with bs := f.bs.set p x } }) := by
  have hmem := List.mem_of_getElem? hk
  obtain ⟨_, _, _, hw⟩ := (h.rep.bytes f hmem).write hg hm
  obtain ⟨o, h2, row⟩ := hw w hm p [byteV x] (by simp; omega)
  obtain ⟨cur, fz, hc⟩ := (h.rep.bytes f hmem).ty hg
  have hl : (f.bs.map byteV).take p ++ [byteV x] ++ (f.bs.map byteV).drop (p + [byteV x].length) = (f.bs.set p x).map byteV := by
    rw [List.set_eq_take_append_cons_drop, if_pos hp]; simp
  rw [hl] at row
  have hne : ∀ b, f.bv.ownBlock ≠ some b → b ≠ g := fun b hb e => hb (by rw [e]; exact hg)
  have hdist : Dist (r.F.set k { f with bs := f.bs.set p x }) := dist_set h.rep.dist fun i d hi hd hn' he => hi (h.rep.dist i k d f hd hk (by rw [← he]; exact hn') he.symm)
  refine ⟨m.set g o, h2, ⟨h.rep.put hk hk0 (fun b o' _ _ hb hmb => by rw [Mem.set_ne _ _ (hne b hb)]; exact hmb) ?_ ?_ ?_ hdist (fun hne => h.rep.named f hmem hne) ?_ (fun he => absurd he hf), h.zero⟩, (Fr.set o (.inl (.inr (.inr (.inr (.inr ⟨f, hmem, hg⟩)))))).mono fun b hb => ?_⟩
  · rw [show (r.F.set k { f with bs := f.bs.set p x }).flatMap rfCells = r.F.flatMap rfCells from flat_same rfCells r.F k f _ hk rfl]
    exact h.rep.files.set_other o (h.rep.files.notOwn (e' := _) hc (by decide))
  · show Row _ f.bv _ 1 (f.bs.set p x).length _
    rw [List.length_set]; exact row
  · intro j d hj hd b hb hb'
    exact h.rep.sepI j k d f hj hd hk b hb hb'
  · show (f.bs.set p x).length ≤ _
    rw [List.length_set]; exact h.rep.bsz f hmem
  · rcases RFP_put hb with hb | hb
    · exact .inl hb
    · exact .inl (.inr (.inr (.inr (.inr ⟨f, hmem, hb⟩))))

theorem wr_step {bs xs : List UInt8} {p i : Nat} {x : UInt8} (hi : xs[i]? = some x) (hp : p + xs.length ≤ bs.length) : (wr bs p (xs.take i)).set (p + i) x = wr bs p (xs.take (i + 1)) := by
  have hil := (List.getElem?_eq_some_iff.1 hi).1
  have l0 : p + (xs.take i).length ≤ bs.length := by rw [List.length_take]; omega
  have l1 : p + (xs.take (i + 1)).length ≤ bs.length := by rw [List.length_take]; omega
  apply List.ext_getElem?
  intro j
  rw [wr_get l1, List.getElem?_set, wr_length l0, wr_get l0, List.length_take, List.length_take]
  by_cases hj : p + i = j
  · subst hj
    rw [if_pos rfl, if_pos (by omega), if_pos (by omega), List.getElem?_take, if_pos (by omega), show p + i - p = i from by omega, hi]
  · rw [if_neg hj]
    by_cases hr : p ≤ j ∧ j < p + min i xs.length
    · rw [if_pos hr, if_pos (by omega), List.getElem?_take, List.getElem?_take, if_pos (by omega), if_pos (by omega)]
    · rw [if_neg hr, if_neg (by omega)]

theorem resz_same {bs : List UInt8} {n : Nat} (h : n ≤ bs.length) : resz bs (max bs.length n) = bs := by
  unfold resz
  rw [Nat.max_eq_left h, List.take_length, Nat.sub_self, List.replicate_zero, List.append_nil]
theorem resz_more {bs : List UInt8} {n : Nat} (h : bs.length < n) : max bs.length n = n := by omega
theorem resz_length' (bs : List UInt8) (n : Nat) : (resz bs n).length = n := by unfold resz; simp; omega
theorem set_getElem {α : Type} {l : List α} {k : Nat} {a : α} (h : l[k]? = some a) : l.set k a = l := by
  obtain ⟨hk, rfl⟩ := List.getElem?_eq_some_iff.1 h
  exact List.set_getElem_self hk

/-- The state in Write's loop. -/
def WRG (r : RG) (k : Nat) (f : RF) (bv : Value) (bs : List UInt8) : RG := { r with F := r.F.set k { f with bv := bv, bs := bs } }
def WLoop (w : World) (m : Mem) (rb : Nat) (r : RG) (k : Nat) (f : RF) (bv : Value) (bs : List UInt8) (wr : World) : Prop :=
  ∃ mr, Has wr mr ∧ Env w wr ∧ RR mr rb (WRG r k f bv bs) ∧ Fr m mr (RFP rb r) (RFP rb (WRG r k f bv bs))

/-- What Write comes to in the end. -/
theorem WLoop.done {w wr : World} {m m0 : Mem} {rb : Nat} {r : RG} {fl : Nat} {f : RF} {bv : Value} {bs : List UInt8} (h : WLoop w m rb r fl f bv bs wr) (hf : r.F[fl]? = some f) (hfn : f.name ≠ ⟨#[]⟩) (hd : Dist r.F) {ob cap : Nat} (hov : r.ov = .slice (some ⟨ob, 0, none⟩) 33 cap) {k : Nat} {o : RO} (ho : r.O[k]? = some o) (hk1 : 1 ≤ k) (hof : o.file = fl) (hf0 : fl ≠ 0) (p : Nat) (hp : p ≤ 262144)
    (wx : World) (hwx : ∀ mr, Has wr mr → Has wx mr) {P0 : Nat → Prop} (fr : Fr m0 m P0 (RFP rb r)) :
    ∃ m2 r2, Has (wx.setCell ⟨ob, k * 3 + 2, none⟩ (.int .i64 p)) m2 ∧ RR m2 rb r2 ∧ Fr m0 m2 P0 (RFP rb r2) ∧ r2.abs = (r.abs.setF f.name bs).setH (k - 1) (some (f.name, o.mode, p)) := by
  obtain ⟨mr, h1, h2, h3, h4⟩ := h
  have hfl := (List.getElem?_eq_some_iff.1 hf).1
  have hget : (WRG r fl f bv bs).F[o.file]? = some { f with bv := bv, bs := bs } := by
    show (r.F.set fl _)[o.file]? = _
    rw [hof, List.getElem?_set_self hfl]
  obtain ⟨m2, a1, a2, a3⟩ := h3.setO (r := WRG r fl f bv bs) hov (o := o) ho hk1 { o with pos := p } 2 [.int .i64 p] (Nat.le_refl 3) rfl (.inr ⟨_, hget, hfn⟩) hp (hwx mr h1)
  refine ⟨m2, _, a1, a2, fr.trans (h4.trans a3), ?_⟩
  have b1 := abs_putO (r := WRG r fl f bv bs) (k := k - 1) { o with pos := p } (by rw [show k - 1 + 1 = k from by omega]; exact (List.getElem?_eq_some_iff.1 ho).1)
  rw [show k - 1 + 1 = k from by omega] at b1
  rw [b1]
  have b2 : (WRG r fl f bv bs).abs = r.abs.setF f.name bs := abs_putB hd hf rfl hfn
  rw [b2]
  congr 1
  unfold roAbs
  rw [if_neg (show ¬ ({ o with pos := p } : RO).file = 0 from by show ¬ o.file = 0; rw [hof]; exact hf0)]
  show ((WRG r fl f bv bs).F[o.file]?).map _ = _
  rw [hget]; rfl

theorem WLoop.cells {w wr : World} {m : Mem} {rb : Nat} {r : RG} {fl : Nat} {f : RF} {bv : Value} {bs : List UInt8} (h : WLoop w m rb r fl f bv bs wr) (hf : r.F[fl]? = some f) {fb fcap : Nat} (hfv : r.fv = .slice (some ⟨fb, 0, none⟩) r.F.length fcap) {ob cap : Nat} (hov : r.ov = .slice (some ⟨ob, 0, none⟩) 33 cap) :
    (∀ k o, r.O[k]? = some o → k < 33 ∧ ∃ v, wr.frozen? ⟨ob, k * 3 + 2, none⟩ = false ∧ wr.cell? ⟨ob, k * 3 + 2, none⟩ = some v) ∧ wr.cell? ⟨rb, 1, none⟩ = some (.slice (some ⟨ob, 0, none⟩) 33 cap) ∧ ob < wr.heap.size ∧ rb < wr.heap.size ∧ fb < wr.heap.size ∧
    wr.cell? ⟨rb, 0, none⟩ = some (.slice (some ⟨fb, 0, none⟩) r.F.length fcap) ∧ wr.cell? ⟨fb, fl * 2 + 1, none⟩ = some bv ∧
    (∀ g, bv.ownBlock = some g → g < wr.heap.size ∧ ∀ i, i < bs.length → wr.frozen? ⟨g, i, none⟩ = false ∧ wr.cell? ⟨g, i, none⟩ = (bs.map byteV)[i]?) := by
  obtain ⟨mr, h1, h2, h3, h4⟩ := h
  have hfl := (List.getElem?_eq_some_iff.1 hf).1
  have hlen : (WRG r fl f bv bs).F.length = r.F.length := List.length_set
  have hget : (WRG r fl f bv bs).F[fl]? = some { f with bv := bv, bs := bs } := by
    show (r.F.set fl _)[fl]? = _
    rw [List.getElem?_set_self hfl]
  obtain ⟨c0, flt, hatf⟩ := h3.rep.at' h1 (fb := fb) (cap := fcap) (by rw [hlen]; exact hfv)
  obtain ⟨_, g1⟩ := hatf fl (by rw [hlen]; exact hfl)
  rw [(List.getElem?_eq_some_iff.1 hget).2] at g1
  obtain ⟨ob', cap', hov', hat⟩ := h3.rep.atO
  obtain ⟨rfl, rfl⟩ : ob' = ob ∧ cap' = cap := by
    have h5 : r.ov = .slice (some ⟨ob', 0, none⟩) 33 cap' := hov'
    rw [hov] at h5
    simp only [Value.slice.injEq, Option.some.injEq, Addr.mk.injEq] at h5
    exact ⟨h5.1.1.symm, h5.2.2.symm⟩
  obtain ⟨c1, olt, hoc⟩ := hat wr h1
  rw [hlen] at c0
  refine ⟨fun k o hk => ?_, c1, olt, h1.lt h3.rep.store, flt, c0, g1, fun g hg => ?_⟩
  · have hk33 := (List.getElem?_eq_some_iff.1 hk).1
    have hol : r.O.length = 33 := h3.rep.olen
    exact ⟨by omega, _, h3.rep.frozO hov' h1 _ (by omega), (hoc k o hk).2.2⟩
  obtain ⟨a1, a2, a3, _⟩ := (h3.rep.bytes _ (List.mem_of_getElem? hget)).write (g := g) hg h1
  exact ⟨a1, fun i hi => ⟨a3 i (by simpa using hi), a2 i (by simpa using hi)⟩⟩

/-- One byte more. -/
theorem WLoop.step {w wr : World} {m : Mem} {rb : Nat} {r : RG} {fl : Nat} {f : RF} {bv : Value} {B xs : List UInt8} {ps i : Nat} (h : WLoop w m rb r fl f bv (Proofs.YtcdmdkgiabfbeaaGreatDoor.wr B ps (xs.take i)) wr) (hf : r.F[fl]? = some f) (hfn : f.name ≠ ⟨#[]⟩) (hf0 : fl ≠ 0) {g : Nat} (hg : bv.ownBlock = some g) {x : UInt8} (hx : xs[i]? = some x) (hp : ps + xs.length ≤ B.length)
    (wx : World) (hwx : ∀ mr, Has wr mr → Has wx mr) (ewx : Env wr wx) : WLoop w m rb r fl f bv (Proofs.YtcdmdkgiabfbeaaGreatDoor.wr B ps (xs.take (i + 1))) (wx.setCell ⟨g, ps + i, none⟩ (byteV x)) := by
  obtain ⟨mr, h1, h2, h3, h4⟩ := h
  have hfl := (List.getElem?_eq_some_iff.1 hf).1
  have hil := (List.getElem?_eq_some_iff.1 hx).1
  obtain ⟨m2, a1, a2, a3⟩ := h3.setByte (k := fl) (f := { f with bv := bv, bs := Proofs.YtcdmdkgiabfbeaaGreatDoor.wr B ps (xs.take i) }) (by
    show (r.F.set fl _)[fl]? = _
    rw [List.getElem?_set_self hfl]) hf0 hfn hg (ps + i) (by show ps + i < (Proofs.YtcdmdkgiabfbeaaGreatDoor.wr B ps (xs.take i)).length; rw [wr_length (by rw [List.length_take]; omega)]; omega) x (hwx mr h1)
  have he : ({ (WRG r fl f bv (Proofs.YtcdmdkgiabfbeaaGreatDoor.wr B ps (xs.take i))) with F := (WRG r fl f bv (Proofs.YtcdmdkgiabfbeaaGreatDoor.wr B ps (xs.take i))).F.set fl { f with bv := bv, bs := (Proofs.YtcdmdkgiabfbeaaGreatDoor.wr B ps (xs.take i)).set (ps + i) x } } : RG) = WRG r fl f bv (Proofs.YtcdmdkgiabfbeaaGreatDoor.wr B ps (xs.take (i + 1))) := by
    unfold WRG
    simp only [List.set_set]
    rw [wr_step hx hp]
  simp only at a2 a3
  rw [he] at a2 a3
  exact ⟨m2, a1, (h2.trans ewx).setCell _ _, a2, h4.trans a3⟩

set_option maxHeartbeats 4000000 in
set_option maxRecDepth 100000 in
theorem write_ref (rb : Nat) (id : Int) (y : Value) (xs : List UInt8) (r : RG) (w : World) (m : Mem) (hm : Has w m) (hr : RR m rb r) (hn : r.n ≤ 9998)
    (hy : WindZ m y xs) (hna : 0 < xs.length → ∀ b, y.ownBlk = some b → ¬ RFP rb r b) (hxl : xs.length ≤ 1000000) :
    Calls Tryz.prog 70 #[.pointer (some ⟨rb, 0, none⟩), .int .i64 id, y] w
      (Ans w (ROpR m rb r (A.withA r.abs id () (writeF (id - 1).toNat xs)) (fun _ _ => True))) := by
  have HBG := Lib.hid (begun_ref rb r id w m hm hr (by omega))
  have HR := Lib.hid hr
  have HT := Lib.hid hr.tick
  have FT := Lib.hid (RR.frTick m rb r)
  obtain ⟨ya, yc, rfl⟩ := hy.shape
  have HY : Hid (∀ mr (P : Nat → Prop), Fr m mr (RFP rb r) P → ∀ wx, Has wx mr → ∀ i x, xs[i]? = some x → ∃ yg yo, ya = some ⟨yg, yo, none⟩ ∧ wx.cell? ⟨yg, yo + i, none⟩ = some (.int .u8 x.toNat) ∧ yg < wx.heap.size) := Lib.hid (fun mr P fr wx hx i x hi => by
    have hk : WindZ mr (.slice ya xs.length yc) xs := hy.keep fun hp b o hb hmb => fr.keep b o hmb (hna hp b hb)
    have hil := (List.getElem?_eq_some_iff.1 hi).1
    rcases hk with ⟨_, _, _, h0⟩ | ⟨yg, yo, ycap, hyv, _, hc⟩
    · rw [h0] at hil; simp at hil
    · simp only [Value.slice.injEq] at hyv
      have hadd : ∀ j, (⟨yg, yo, none⟩ : Addr).add j = ⟨yg, yo + j, none⟩ := fun j => by unfold Addr.add; split <;> simp_all
      have h1 := hc.at hx i (byteV x) (by rw [List.getElem?_map, hi]; rfl)
      rw [hadd] at h1
      obtain ⟨c, e, fz, hg, _⟩ := hc
      exact ⟨yg, yo, hyv.1, h1, hx.lt hg⟩)
  clear hm hr hy hna
  go_enter Tryz.func70, Tryz.ntmps70
  go_wp2_with fail
  refine HBG.out.mono ?_
  rintro e w1 ⟨rfl, h1, n1⟩
  have H1 := Lib.hid h1
  have N1 := Lib.hid n1
  clear h1 n1 HBG
  rcases HR.out.begun id with ⟨hx, hW⟩ | ⟨hx, k, o, f, hid, hk1, hk2, ho, hof, hf, hfn, hW⟩
  · have HE := Lib.hid (HR.out.early (begX r.abs id) () (fun _ _ => True) trivial)
    have HW := Lib.hid hW
    clear hW
    obtain ⟨x, hxx⟩ : ∃ x, begX r.abs id = x := ⟨_, rfl⟩
    rw [hxx] at hx
    have HXX := Lib.hid hxx
    rw [hxx] at HE
    rw [hxx]
    clear hxx
    have hb : (x == 0) = false := by simpa using hx
    go_wp2_with fail
    go_ret
    rw [HW.out, HXX.out]
    exact ⟨_, _, rfl, H1.out, N1.out, HE.out⟩
  · subst hid
    obtain ⟨m1, hm1⟩ : ∃ m1, m.set rb (rstoreObj r.tick) = m1 := ⟨_, rfl⟩
    rw [hm1] at H1 HT FT
    clear hm1
    rw [hx]
    have HW := Lib.hid hW
    clear hW hx
    obtain ⟨ob, ocap, hov, hat⟩ := HT.out.rep.atO
    have hfz := HT.out.rep.frozO hov H1.out
    obtain ⟨c1, olt, hat⟩ := hat w1 H1.out
    obtain ⟨e0, e1, e2⟩ := hat k o ho
    have rlt := H1.out.lt HT.out.rep.store
    have HOV := Lib.hid hov
    clear hov hat
    obtain ⟨fb, fcap, hfv, hat0⟩ := HT.out.rep.at H1.out
    clear hat0
    obtain ⟨c0, flt, hatf⟩ := HT.out.rep.at' H1.out hfv
    have hfl : o.file < r.F.length := (List.getElem?_eq_some_iff.1 hf).1
    have hflen : r.F.length ≤ 101 + (r.n + 1) := HT.out.rep.flen
    obtain ⟨g0, g1⟩ := hatf o.file hfl
    change w1.cell? ⟨fb, o.file * 2, none⟩ = some (.string r.F[o.file].name) at g0
    change w1.cell? ⟨fb, o.file * 2 + 1, none⟩ = some r.F[o.file].bv at g1
    have hfe : r.F[o.file] = f := (List.getElem?_eq_some_iff.1 hf).2
    rw [hfe] at g0 g1
    obtain ⟨ba, bc, hbv, hbc⟩ := (HT.out.rep.bytes f (List.mem_of_getElem? hf)).lenV
    have hbl := HT.out.rep.bsz f (List.mem_of_getElem? hf)
    rw [hbv] at g1
    have HFV := Lib.hid hfv
    have HBV := Lib.hid hbv
    change w1.cell? ⟨rb, 0, none⟩ = some (.slice (some ⟨fb, 0, none⟩) r.F.length fcap) at c0
    clear hatf hfe hfv hbv
    have BS := Lib.hid (HR.out.bytesOf hf hfn)
    have ROWB := Lib.hid (HT.out.rep.bytes f (List.mem_of_getElem? hf))
    have DONE0 : Hid (∀ bv bs w wr, WLoop w m1 rb r.tick o.file f bv bs wr → ∀ p : Nat, p ≤ 262144 → ∀ wx, (∀ mr, Has wr mr → Has wx mr) → ∃ m2 r2, Has (wx.setCell ⟨ob, k * 3 + 2, none⟩ (.int .i64 p)) m2 ∧ RR m2 rb r2 ∧ Fr m m2 (RFP rb r) (RFP rb r2) ∧ r2.abs = (r.abs.tick.setF f.name bs).setH (k - 1) (some (f.name, o.mode, p))) :=
      Lib.hid (fun bv bs w wr h p hp wx hwx => h.done hf hfn HT.out.rep.dist HOV.out ho hk1 rfl hof p hp wx hwx FT.out)
    have HO := Lib.hid ho
    have HF := Lib.hid hf
    have HFN := Lib.hid hfn
    obtain ⟨fl, hfe⟩ : ∃ fl, o.file = fl := ⟨_, rfl⟩
    obtain ⟨md, hmd⟩ : ∃ md, o.mode = md := ⟨_, rfl⟩
    obtain ⟨ps, hps⟩ : ∃ ps, o.pos = ps := ⟨_, rfl⟩
    have hpl := HT.out.rep.opos o (List.mem_of_getElem? ho)
    rw [hfe] at HF
    simp only [hfe, hmd, hps] at *
    have HFE := Lib.hid hfe
    have HMD := Lib.hid hmd
    have HPS := Lib.hid hps
    clear ho hf hfn hfe hmd hps
    clear hfz g0
    have WF : Hid (∀ x, writeX (f.name, md, ps) xs = x → x ≠ 0 → writeF ((k : Int) - 1).toNat xs r.abs.tick (f.name, md, ps) r.now = (r.abs.tick, x, ())) := Lib.hid (fun x hx h0 => by unfold writeF; rw [hx, if_pos h0])
    by_cases hm1 : md = 1
    · have hmb : (md == 1) = true := by simpa using hm1
      go_wp2_with fail
      go_ret
      rw [HW.out, WF.out (-20) (by unfold writeX; rw [if_pos (show (f.name, md, ps).2.1 = 1 from hm1)]) (by decide)]
      exact ⟨_, _, rfl, H1.out, N1.out, r.tick, HT.out, FT.out, rfl, rfl, trivial⟩
    · have hmb : (md == 1) = false := by simpa using hm1
      by_cases hn1 : (262144 : Int) < (ps : Int) + (xs.length : Int)
      · go_wp2_with fail
        go_ret
        rw [HW.out, WF.out (-8) (by unfold writeX; rw [if_neg (show ¬ (f.name, md, ps).2.1 = 1 from hm1), if_pos (show 262144 < ps + xs.length from by omega)]) (by decide)]
        exact ⟨_, _, rfl, H1.out, N1.out, r.tick, HT.out, FT.out, rfl, rfl, trivial⟩
      · have WG : Hid (writeF ((k : Int) - 1).toNat xs r.abs.tick (f.name, md, ps) r.now = ((r.abs.tick.setF f.name (wr (resz f.bs (max f.bs.length (ps + xs.length))) ps xs)).setH (k - 1) (some (f.name, md, ps + xs.length)), 0, ())) := Lib.hid (by
          unfold writeF
          rw [show writeX (f.name, md, ps) xs = 0 from by unfold writeX; rw [if_neg (show ¬ (f.name, md, ps).2.1 = 1 from hm1), if_neg (show ¬ 262144 < ps + xs.length from by omega)], if_neg (fun c => c rfl), show ((k : Int) - 1).toNat = k - 1 from by omega]
          show ((r.abs.tick.setF f.name (wr (resz (r.abs.bytes f.name) (max (r.abs.bytes f.name).length (ps + xs.length))) ps xs)).setH _ _, _, _) = _
          rw [BS.out])
        obtain ⟨B, hB⟩ : ∃ B, resz f.bs (max f.bs.length (ps + xs.length)) = B := ⟨_, rfl⟩
        rw [hB] at WG
        have hBL : ps + xs.length ≤ B.length := by rw [← hB, resz_length']; omega
        have hBM : B.length ≤ 262144 := by rw [← hB, resz_length']; omega
        have HB := Lib.hid hB
        clear hB
        obtain ⟨L, hL⟩ : ∃ L, f.bs.length = L := ⟨_, rfl⟩
        rw [hL] at hbl hbc g1 HB
        have HL := Lib.hid hL
        clear hL
        by_cases hgrow : (L : Int) < (ps : Int) + (xs.length : Int)
        · go_wp2_with fail
          rw [show (ps : Int) + (xs.length : Int) = ((ps + xs.length : Nat) : Int) from by omega]
          refine (length_ref rb fl (ps + xs.length) f r.tick w1 m1 H1.out HT.out HF.out hof HFN.out (by omega) (by show r.n + 1 ≤ _; omega)).mono ?_
          rintro e w2 ⟨m2, bv, rfl, h2, n2, r2, f2⟩
          have W0 : Hid (WLoop w m1 rb r.tick fl f bv (wr B ps (xs.take 0)) w2) := Lib.hid ⟨m2, h2, N1.out.trans n2, by
            have e1 : wr B ps (xs.take 0) = resz f.bs (ps + xs.length) := by
              rw [List.take_zero, wr_nil, ← HB.out, Nat.max_eq_right (by omega)]
            rw [e1]
            exact ⟨r2, f2⟩⟩
          clear h2 n2 r2 f2 g1 c0 c1 olt rlt flt e0 e1 e2
          go_wp2_with fail
          have NTH : Hid (∀ i, i < xs.length → ∃ x, xs[i]? = some x) := Lib.hid (fun i hi => ⟨xs[i], List.getElem?_eq_getElem hi⟩)
          go_loopw [10] (fun i' wr => ∃ i : Nat, i ≤ xs.length ∧ i' = .int .i64 i ∧ Hid (WLoop w m1 rb r.tick fl f bv (Proofs.YtcdmdkgiabfbeaaGreatDoor.wr B ps (xs.take i)) wr)) (fun i' _ => xs.length - (intOf i').toNat)
          case atStart => exact ⟨0, Nat.zero_le _, rfl, W0⟩
          case round =>
            obtain ⟨i, hi, rfl, HX⟩ := hrel
            obtain ⟨fzo, c1, olt, rlt, flt, c0, g1, hbyte⟩ := HX.out.cells HF.out HFV.out HOV.out
            change wr.cell? ⟨rb, 0, none⟩ = some (.slice (some ⟨fb, 0, none⟩) r.F.length fcap) at c0
            by_cases hlt : i < xs.length
            · obtain ⟨x, hx⟩ := NTH.out i hlt
              obtain ⟨gb, bcap, hbvv⟩ : ∃ gb bcap, bv = .slice (some ⟨gb, 0, none⟩) B.length bcap := by
                obtain ⟨mr, _, _, h3, _⟩ := HX.out
                have hrow := h3.rep.bytes { f with bv := bv, bs := Proofs.YtcdmdkgiabfbeaaGreatDoor.wr B ps (xs.take i) } (by
                  show _ ∈ r.F.set fl _
                  exact List.mem_of_getElem? (List.getElem?_set_self (List.getElem?_eq_some_iff.1 HF.out).1))
                have hwl : (Proofs.YtcdmdkgiabfbeaaGreatDoor.wr B ps (xs.take i)).length = B.length := wr_length (by rw [List.length_take]; omega)
                obtain ⟨_, ⟨h1, h2⟩ | ⟨gb, bcap, _, _, h1, _⟩⟩ := hrow
                · rw [hwl] at h2; omega
                · exact ⟨gb, bcap, by rw [← hwl]; exact h1⟩
              obtain ⟨glt, hgc⟩ := hbyte gb (by rw [hbvv]; rfl)
              obtain ⟨zg, eg⟩ := hgc (ps + i) (by rw [wr_length (by rw [List.length_take]; omega)]; omega)
              rw [List.getElem?_map, List.getElem?_eq_getElem (by rw [wr_length (by rw [List.length_take]; omega)]; omega), Option.map_some] at eg
              generalize byteV _ = v0 at eg
              obtain ⟨yg, yo, hya, ey, ylt⟩ : ∃ yg yo, ya = some ⟨yg, yo, none⟩ ∧ wr.cell? ⟨yg, yo + i, none⟩ = some (.int .u8 x.toNat) ∧ yg < wr.heap.size := by
                obtain ⟨mr, h1, _, _, h4⟩ := HX.out
                exact HY.out mr _ (FT.out.trans h4) wr h1 i x hx
              have STEP : Hid (∀ wx, (∀ mr, Has wr mr → Has wx mr) → Env wr wx → WLoop w m1 rb r.tick fl f bv (Proofs.YtcdmdkgiabfbeaaGreatDoor.wr B ps (xs.take (i + 1))) (wx.setCell ⟨gb, ps + i, none⟩ (byteV x))) := Lib.hid (fun wx hwx ewx => HX.out.step HF.out HFN.out hof (by rw [hbvv]; rfl) hx hBL wx hwx ewx)
              have HBVV := Lib.hid hbvv
              rw [hbvv] at g1
              have HYA := Lib.hid hya
              subst hya
              clear hbvv hbyte hgc fzo hx HX
              have hbd : (ps : Int) + (i : Int) < (B.length : Int) := by omega
              have hge : 0 ≤ (ps : Int) + (i : Int) := by omega
              have htn : ((ps : Int) + (i : Int)).toNat = ps + i := by omega
              have wk : IntKind.i64.wrap ((ps : Int) + (i : Int)) = (ps : Int) + i := by simp [IntKind.wrap, IntKind.signed, IntKind.bits]; omega
              clear c1 olt W0
              go_wp2_with fail
              refine wp_region_K 15 (fun w' => w'.cell? ⟨rb, 0, none⟩ = some (.slice (some ⟨fb, 0, none⟩) r.F.length fcap) ∧ w'.cell? ⟨fb, fl * 2 + 1, none⟩ = some (.slice (some ⟨gb, 0, none⟩) B.length bcap) ∧ w'.cell? ⟨yg, yo + i, none⟩ = some (.int .u8 (x.toNat : Int))) (by kernel_rfl) ?_
              have hS : (fun w' : World => w'.cell? ⟨rb, 0, none⟩ = some (.slice (some ⟨fb, 0, none⟩) r.F.length fcap) ∧ w'.cell? ⟨fb, fl * 2 + 1, none⟩ = some (.slice (some ⟨gb, 0, none⟩) B.length bcap) ∧ w'.cell? ⟨yg, yo + i, none⟩ = some (.int .u8 (x.toNat : Int))) wr.drew := ⟨c0, g1, ey⟩
              refine wpAnyK_take (i := 0) (v := ?_) rfl (by kernel_rfl) (by kernel_rfl) (by kernel_rfl) (by kernel_rfl) (fun _ _ _ h => h) (Or.inl ⟨by rfl, ?_⟩) hS ?_
              rotate_left
              · intro w0 hS0; obtain ⟨q0, q1, q2⟩ := hS0; go_simp; try with_reducible rfl
              simp only [Act.put, List.setIfInBounds_toArray, List.set_cons_zero, List.set_cons_succ, List.getElem_toArray, List.getElem_cons_succ, List.getElem_cons_zero]
              refine wpAnyK_take (i := 1) (v := ?_) rfl (by kernel_rfl) (by kernel_rfl) (by kernel_rfl) (by kernel_rfl) (fun _ _ _ h => h) (Or.inl ⟨by rfl, ?_⟩) hS ?_
              rotate_left
              · intro w0 hS0; obtain ⟨q0, q1, q2⟩ := hS0; go_simp; try with_reducible rfl
              simp only [Act.put, List.setIfInBounds_toArray, List.set_cons_zero, List.set_cons_succ, List.getElem_toArray, List.getElem_cons_succ, List.getElem_cons_zero]
              refine wpAnyK_take (i := 2) (v := ?_) rfl (by kernel_rfl) (by kernel_rfl) (by kernel_rfl) (by kernel_rfl) (fun _ _ _ h => h) (Or.inl ⟨by rfl, ?_⟩) hS ?_
              rotate_left
              · intro w0 hS0; obtain ⟨q0, q1, q2⟩ := hS0; go_simp; try with_reducible rfl
              simp only [Act.put, List.setIfInBounds_toArray, List.set_cons_zero, List.set_cons_succ, List.getElem_toArray, List.getElem_cons_succ, List.getElem_cons_zero]
              refine wpAnyK_take (i := 3) (v := ?_) rfl (by kernel_rfl) (by kernel_rfl) (by kernel_rfl) (by kernel_rfl) (fun _ _ _ h => h) (Or.inl ⟨by rfl, ?_⟩) hS ?_
              rotate_left
              · intro w0 hS0; obtain ⟨q0, q1, q2⟩ := hS0; go_simp; try with_reducible rfl
              simp only [Act.put, List.setIfInBounds_toArray, List.set_cons_zero, List.set_cons_succ, List.getElem_toArray, List.getElem_cons_succ, List.getElem_cons_zero]
              refine wpAnyK_take (i := 4) (v := ?_) rfl (by kernel_rfl) (by kernel_rfl) (by kernel_rfl) (by kernel_rfl) (fun _ _ _ h => h) (Or.inl ⟨by rfl, ?_⟩) hS ?_
              rotate_left
              · intro w0 hS0; obtain ⟨q0, q1, q2⟩ := hS0; go_simp; try with_reducible rfl
              simp only [Act.put, List.setIfInBounds_toArray, List.set_cons_zero, List.set_cons_succ, List.getElem_toArray, List.getElem_cons_succ, List.getElem_cons_zero]
              refine wpAnyK_take (i := 5) (v := ?_) rfl (by kernel_rfl) (by kernel_rfl) (by kernel_rfl) (by kernel_rfl) (fun _ _ _ h => h) (Or.inl ⟨by rfl, ?_⟩) hS ?_
              rotate_left
              · intro w0 hS0; obtain ⟨q0, q1, q2⟩ := hS0; go_simp; try with_reducible rfl
              simp only [Act.put, List.setIfInBounds_toArray, List.set_cons_zero, List.set_cons_succ, List.getElem_toArray, List.getElem_cons_succ, List.getElem_cons_zero]
              refine wpAnyK_take (i := 6) (v := ?_) rfl (by kernel_rfl) (by kernel_rfl) (by kernel_rfl) (by kernel_rfl) (fun _ _ _ h => h) (Or.inl ⟨by rfl, ?_⟩) hS ?_
              rotate_left
              · intro w0 hS0; obtain ⟨q0, q1, q2⟩ := hS0; go_simp; try with_reducible rfl
              simp only [Act.put, List.setIfInBounds_toArray, List.set_cons_zero, List.set_cons_succ, List.getElem_toArray, List.getElem_cons_succ, List.getElem_cons_zero]
              refine wpAnyK_take (i := 7) (v := ?_) rfl (by kernel_rfl) (by kernel_rfl) (by kernel_rfl) (by kernel_rfl) (fun _ _ _ h => h) (Or.inl ⟨by rfl, ?_⟩) hS ?_
              rotate_left
              · intro w0 hS0; obtain ⟨q0, q1, q2⟩ := hS0; go_simp; try with_reducible rfl
              simp only [Act.put, List.setIfInBounds_toArray, List.set_cons_zero, List.set_cons_succ, List.getElem_toArray, List.getElem_cons_succ, List.getElem_cons_zero]
              refine wpAnyK_take (i := 8) (v := ?_) rfl (by kernel_rfl) (by kernel_rfl) (by kernel_rfl) (by kernel_rfl) (fun _ _ _ h => h) (Or.inl ⟨by rfl, ?_⟩) hS ?_
              rotate_left
              · intro w0 hS0; obtain ⟨q0, q1, q2⟩ := hS0; go_simp; try with_reducible rfl
              simp only [Act.put, List.setIfInBounds_toArray, List.set_cons_zero, List.set_cons_succ, List.getElem_toArray, List.getElem_cons_succ, List.getElem_cons_zero]
              refine wpAnyK_take (i := 9) (v := ?_) rfl (by kernel_rfl) (by kernel_rfl) (by kernel_rfl) (by kernel_rfl) (fun _ _ _ h => h) (Or.inl ⟨by rfl, ?_⟩) hS ?_
              rotate_left
              · intro w0 hS0; obtain ⟨q0, q1, q2⟩ := hS0; go_simp; try with_reducible rfl
              simp only [Act.put, List.setIfInBounds_toArray, List.set_cons_zero, List.set_cons_succ, List.getElem_toArray, List.getElem_cons_succ, List.getElem_cons_zero]
              refine wpAnyK_take (i := 10) (v := ?_) rfl (by kernel_rfl) (by kernel_rfl) (by kernel_rfl) (by kernel_rfl) (fun _ _ _ h => h) (Or.inl ⟨by rfl, ?_⟩) hS ?_
              rotate_left
              · intro w0 hS0; obtain ⟨q0, q1, q2⟩ := hS0; go_simp; try with_reducible rfl
              simp only [Act.put, List.setIfInBounds_toArray, List.set_cons_zero, List.set_cons_succ, List.getElem_toArray, List.getElem_cons_succ, List.getElem_cons_zero]
              refine wpAnyK_take (i := 11) (v := ?_) rfl (by kernel_rfl) (by kernel_rfl) (by kernel_rfl) (by kernel_rfl) (fun _ _ _ h => h) (Or.inl ⟨by rfl, ?_⟩) hS ?_
              rotate_left
              · intro w0 hS0; obtain ⟨q0, q1, q2⟩ := hS0; go_simp; try with_reducible rfl
              simp only [Act.put, List.setIfInBounds_toArray, List.set_cons_zero, List.set_cons_succ, List.getElem_toArray, List.getElem_cons_succ, List.getElem_cons_zero]
              refine wpAnyK_take (i := 12) (v := ?_) rfl (by kernel_rfl) (by kernel_rfl) (by kernel_rfl) (by kernel_rfl) (fun _ _ _ h => h) (Or.inl ⟨by rfl, ?_⟩) hS ?_
              rotate_left
              · intro w0 hS0; obtain ⟨q0, q1, q2⟩ := hS0; go_simp; try with_reducible rfl
              simp only [Act.put, List.setIfInBounds_toArray, List.set_cons_zero, List.set_cons_succ, List.getElem_toArray, List.getElem_cons_succ, List.getElem_cons_zero]
              refine wpAnyK_take (i := 13) (v := ?_) rfl (by kernel_rfl) (by kernel_rfl) (by kernel_rfl) (by kernel_rfl) (fun _ _ _ h => h) (Or.inl ⟨by rfl, ?_⟩) hS ?_
              rotate_left
              · intro w0 hS0; obtain ⟨q0, q1, q2⟩ := hS0; go_simp; try with_reducible rfl
              simp only [Act.put, List.setIfInBounds_toArray, List.set_cons_zero, List.set_cons_succ, List.getElem_toArray, List.getElem_cons_succ, List.getElem_cons_zero]
              refine wpAnyK_take (i := 14) (v := ?_) rfl (by kernel_rfl) (by kernel_rfl) (by kernel_rfl) (by kernel_rfl) (fun _ _ _ h => h) (Or.inl ⟨by rfl, ?_⟩) hS ?_
              rotate_left
              · intro w0 hS0; obtain ⟨q0, q1, q2⟩ := hS0; go_simp; try with_reducible rfl
              simp only [Act.put, List.setIfInBounds_toArray, List.set_cons_zero, List.set_cons_succ, List.getElem_toArray, List.getElem_cons_succ, List.getElem_cons_zero]
              clear hS c0 g1 ey
              refine wpAnyK_one (i := 15) rfl (by kernel_rfl) rfl ?_
              go_simp
              refine wpAnyK_one (i := 16) rfl (by kernel_rfl) rfl ?_
              go_simp
              refine wpAnyK_done (by kernel_rfl) ?_ _
              go_wp2_with fail
              go_roundw
              case rel => exact ⟨i + 1, hlt, by go_num, Lib.hid (STEP.out wr.drew (fun _ h => h.drew) ((Env.refl _).drew))⟩
              case measure => simp [intOf]; omega
            · obtain rfl : i = xs.length := by omega
              obtain ⟨_, v2, z2, e2⟩ := fzo k o HO.out
              have DONE : Hid (∀ wx, (∀ mr, Has wr mr → Has wx mr) → ∃ m2 r2, Has (wx.setCell ⟨ob, k * 3 + 2, none⟩ (.int .i64 ((ps + xs.length : Nat) : Int))) m2 ∧ RR m2 rb r2 ∧ Fr m m2 (RFP rb r) (RFP rb r2) ∧ r2.abs = (r.abs.tick.setF f.name (Proofs.YtcdmdkgiabfbeaaGreatDoor.wr B ps xs)).setH (k - 1) (some (f.name, md, ps + xs.length))) := Lib.hid (fun wx hwx => by
                have h0 := HX.out
                rw [List.take_length] at h0
                exact DONE0.out bv _ w wr h0 (ps + xs.length) (by omega) wx hwx)
              have NX : Hid (Env w wr) := Lib.hid (by obtain ⟨mr, _, h2, _⟩ := HX.out; exact h2)
              clear fzo hbyte c0 g1 flt W0 HX
              go_wp2_with fail
              go_ret
              rw [HW.out, WG.out]
              obtain ⟨m2, r2, a1, a2, a3, a4⟩ := DONE.out wr (fun _ h => h)
              rw [Int.natCast_add] at a1
              exact ⟨_, m2, rfl, a1, NX.out.setCell _ _, r2, a2, a3, a4, rfl, trivial⟩
        · have W0 : Hid (∀ wx, Has wx m1 → Env w wx → WLoop w m1 rb r.tick fl f f.bv (wr B ps (xs.take 0)) wx) := Lib.hid (fun wx hx nx => by
            have e1 : wr B ps (xs.take 0) = f.bs := by
              rw [List.take_zero, wr_nil, ← HB.out, ← HL.out]
              exact resz_same (by rw [HL.out]; omega)
            rw [e1]
            have e2 : WRG r.tick fl f f.bv f.bs = r.tick := by
              unfold WRG
              rw [show ({ f with bv := f.bv, bs := f.bs } : RF) = f from rfl, show r.tick.F.set fl f = r.tick.F from set_getElem HF.out]
            refine ⟨m1, hx, nx, ?_, ?_⟩
            · rw [e2]; exact HT.out
            · rw [e2]; exact Fr.refl _ _)
          go_wp2_with fail
          have W0 := Lib.hid (W0.out _ H1.out N1.out)
          obtain ⟨bv, hbve⟩ : ∃ bv, f.bv = bv := ⟨_, rfl⟩
          rw [hbve] at W0
          clear hbve g1 c0 c1 olt rlt flt e0 e1 e2
          have NTH : Hid (∀ i, i < xs.length → ∃ x, xs[i]? = some x) := Lib.hid (fun i hi => ⟨xs[i], List.getElem?_eq_getElem hi⟩)
          go_loopw [10] (fun i' wr => ∃ i : Nat, i ≤ xs.length ∧ i' = .int .i64 i ∧ Hid (WLoop w m1 rb r.tick fl f bv (Proofs.YtcdmdkgiabfbeaaGreatDoor.wr B ps (xs.take i)) wr)) (fun i' _ => xs.length - (intOf i').toNat)
          case atStart => exact ⟨0, Nat.zero_le _, rfl, W0⟩
          case round =>
            obtain ⟨i, hi, rfl, HX⟩ := hrel
            obtain ⟨fzo, c1, olt, rlt, flt, c0, g1, hbyte⟩ := HX.out.cells HF.out HFV.out HOV.out
            change wr.cell? ⟨rb, 0, none⟩ = some (.slice (some ⟨fb, 0, none⟩) r.F.length fcap) at c0
            by_cases hlt : i < xs.length
            · obtain ⟨x, hx⟩ := NTH.out i hlt
              obtain ⟨gb, bcap, hbvv⟩ : ∃ gb bcap, bv = .slice (some ⟨gb, 0, none⟩) B.length bcap := by
                obtain ⟨mr, _, _, h3, _⟩ := HX.out
                have hrow := h3.rep.bytes { f with bv := bv, bs := Proofs.YtcdmdkgiabfbeaaGreatDoor.wr B ps (xs.take i) } (by
                  show _ ∈ r.F.set fl _
                  exact List.mem_of_getElem? (List.getElem?_set_self (List.getElem?_eq_some_iff.1 HF.out).1))
                have hwl : (Proofs.YtcdmdkgiabfbeaaGreatDoor.wr B ps (xs.take i)).length = B.length := wr_length (by rw [List.length_take]; omega)
                obtain ⟨_, ⟨h1, h2⟩ | ⟨gb, bcap, _, _, h1, _⟩⟩ := hrow
                · rw [hwl] at h2; omega
                · exact ⟨gb, bcap, by rw [← hwl]; exact h1⟩
              obtain ⟨glt, hgc⟩ := hbyte gb (by rw [hbvv]; rfl)
              obtain ⟨zg, eg⟩ := hgc (ps + i) (by rw [wr_length (by rw [List.length_take]; omega)]; omega)
              rw [List.getElem?_map, List.getElem?_eq_getElem (by rw [wr_length (by rw [List.length_take]; omega)]; omega), Option.map_some] at eg
              generalize byteV _ = v0 at eg
              obtain ⟨yg, yo, hya, ey, ylt⟩ : ∃ yg yo, ya = some ⟨yg, yo, none⟩ ∧ wr.cell? ⟨yg, yo + i, none⟩ = some (.int .u8 x.toNat) ∧ yg < wr.heap.size := by
                obtain ⟨mr, h1, _, _, h4⟩ := HX.out
                exact HY.out mr _ (FT.out.trans h4) wr h1 i x hx
              have STEP : Hid (∀ wx, (∀ mr, Has wr mr → Has wx mr) → Env wr wx → WLoop w m1 rb r.tick fl f bv (Proofs.YtcdmdkgiabfbeaaGreatDoor.wr B ps (xs.take (i + 1))) (wx.setCell ⟨gb, ps + i, none⟩ (byteV x))) := Lib.hid (fun wx hwx ewx => HX.out.step HF.out HFN.out hof (by rw [hbvv]; rfl) hx hBL wx hwx ewx)
              have HBVV := Lib.hid hbvv
              rw [hbvv] at g1
              have HYA := Lib.hid hya
              subst hya
              clear hbvv hbyte hgc fzo hx HX
              have hbd : (ps : Int) + (i : Int) < (B.length : Int) := by omega
              have hge : 0 ≤ (ps : Int) + (i : Int) := by omega
              have htn : ((ps : Int) + (i : Int)).toNat = ps + i := by omega
              have wk : IntKind.i64.wrap ((ps : Int) + (i : Int)) = (ps : Int) + i := by simp [IntKind.wrap, IntKind.signed, IntKind.bits]; omega
              clear c1 olt W0
              go_wp2_with fail
              refine wp_region_K 15 (fun w' => w'.cell? ⟨rb, 0, none⟩ = some (.slice (some ⟨fb, 0, none⟩) r.F.length fcap) ∧ w'.cell? ⟨fb, fl * 2 + 1, none⟩ = some (.slice (some ⟨gb, 0, none⟩) B.length bcap) ∧ w'.cell? ⟨yg, yo + i, none⟩ = some (.int .u8 (x.toNat : Int))) (by kernel_rfl) ?_
              have hS : (fun w' : World => w'.cell? ⟨rb, 0, none⟩ = some (.slice (some ⟨fb, 0, none⟩) r.F.length fcap) ∧ w'.cell? ⟨fb, fl * 2 + 1, none⟩ = some (.slice (some ⟨gb, 0, none⟩) B.length bcap) ∧ w'.cell? ⟨yg, yo + i, none⟩ = some (.int .u8 (x.toNat : Int))) wr.drew := ⟨c0, g1, ey⟩
              refine wpAnyK_take (i := 0) (v := ?_) rfl (by kernel_rfl) (by kernel_rfl) (by kernel_rfl) (by kernel_rfl) (fun _ _ _ h => h) (Or.inl ⟨by rfl, ?_⟩) hS ?_
              rotate_left
              · intro w0 hS0; obtain ⟨q0, q1, q2⟩ := hS0; go_simp; try with_reducible rfl
              simp only [Act.put, List.setIfInBounds_toArray, List.set_cons_zero, List.set_cons_succ, List.getElem_toArray, List.getElem_cons_succ, List.getElem_cons_zero]
              refine wpAnyK_take (i := 1) (v := ?_) rfl (by kernel_rfl) (by kernel_rfl) (by kernel_rfl) (by kernel_rfl) (fun _ _ _ h => h) (Or.inl ⟨by rfl, ?_⟩) hS ?_
              rotate_left
              · intro w0 hS0; obtain ⟨q0, q1, q2⟩ := hS0; go_simp; try with_reducible rfl
              simp only [Act.put, List.setIfInBounds_toArray, List.set_cons_zero, List.set_cons_succ, List.getElem_toArray, List.getElem_cons_succ, List.getElem_cons_zero]
              refine wpAnyK_take (i := 2) (v := ?_) rfl (by kernel_rfl) (by kernel_rfl) (by kernel_rfl) (by kernel_rfl) (fun _ _ _ h => h) (Or.inl ⟨by rfl, ?_⟩) hS ?_
              rotate_left
              · intro w0 hS0; obtain ⟨q0, q1, q2⟩ := hS0; go_simp; try with_reducible rfl
              simp only [Act.put, List.setIfInBounds_toArray, List.set_cons_zero, List.set_cons_succ, List.getElem_toArray, List.getElem_cons_succ, List.getElem_cons_zero]
              refine wpAnyK_take (i := 3) (v := ?_) rfl (by kernel_rfl) (by kernel_rfl) (by kernel_rfl) (by kernel_rfl) (fun _ _ _ h => h) (Or.inl ⟨by rfl, ?_⟩) hS ?_
              rotate_left
              · intro w0 hS0; obtain ⟨q0, q1, q2⟩ := hS0; go_simp; try with_reducible rfl
              simp only [Act.put, List.setIfInBounds_toArray, List.set_cons_zero, List.set_cons_succ, List.getElem_toArray, List.getElem_cons_succ, List.getElem_cons_zero]
              refine wpAnyK_take (i := 4) (v := ?_) rfl (by kernel_rfl) (by kernel_rfl) (by kernel_rfl) (by kernel_rfl) (fun _ _ _ h => h) (Or.inl ⟨by rfl, ?_⟩) hS ?_
              rotate_left
              · intro w0 hS0; obtain ⟨q0, q1, q2⟩ := hS0; go_simp; try with_reducible rfl
              simp only [Act.put, List.setIfInBounds_toArray, List.set_cons_zero, List.set_cons_succ, List.getElem_toArray, List.getElem_cons_succ, List.getElem_cons_zero]
              refine wpAnyK_take (i := 5) (v := ?_) rfl (by kernel_rfl) (by kernel_rfl) (by kernel_rfl) (by kernel_rfl) (fun _ _ _ h => h) (Or.inl ⟨by rfl, ?_⟩) hS ?_
              rotate_left
              · intro w0 hS0; obtain ⟨q0, q1, q2⟩ := hS0; go_simp; try with_reducible rfl
              simp only [Act.put, List.setIfInBounds_toArray, List.set_cons_zero, List.set_cons_succ, List.getElem_toArray, List.getElem_cons_succ, List.getElem_cons_zero]
              refine wpAnyK_take (i := 6) (v := ?_) rfl (by kernel_rfl) (by kernel_rfl) (by kernel_rfl) (by kernel_rfl) (fun _ _ _ h => h) (Or.inl ⟨by rfl, ?_⟩) hS ?_
              rotate_left
              · intro w0 hS0; obtain ⟨q0, q1, q2⟩ := hS0; go_simp; try with_reducible rfl
              simp only [Act.put, List.setIfInBounds_toArray, List.set_cons_zero, List.set_cons_succ, List.getElem_toArray, List.getElem_cons_succ, List.getElem_cons_zero]
              refine wpAnyK_take (i := 7) (v := ?_) rfl (by kernel_rfl) (by kernel_rfl) (by kernel_rfl) (by kernel_rfl) (fun _ _ _ h => h) (Or.inl ⟨by rfl, ?_⟩) hS ?_
              rotate_left
              · intro w0 hS0; obtain ⟨q0, q1, q2⟩ := hS0; go_simp; try with_reducible rfl
              simp only [Act.put, List.setIfInBounds_toArray, List.set_cons_zero, List.set_cons_succ, List.getElem_toArray, List.getElem_cons_succ, List.getElem_cons_zero]
              refine wpAnyK_take (i := 8) (v := ?_) rfl (by kernel_rfl) (by kernel_rfl) (by kernel_rfl) (by kernel_rfl) (fun _ _ _ h => h) (Or.inl ⟨by rfl, ?_⟩) hS ?_
              rotate_left
              · intro w0 hS0; obtain ⟨q0, q1, q2⟩ := hS0; go_simp; try with_reducible rfl
              simp only [Act.put, List.setIfInBounds_toArray, List.set_cons_zero, List.set_cons_succ, List.getElem_toArray, List.getElem_cons_succ, List.getElem_cons_zero]
              refine wpAnyK_take (i := 9) (v := ?_) rfl (by kernel_rfl) (by kernel_rfl) (by kernel_rfl) (by kernel_rfl) (fun _ _ _ h => h) (Or.inl ⟨by rfl, ?_⟩) hS ?_
              rotate_left
              · intro w0 hS0; obtain ⟨q0, q1, q2⟩ := hS0; go_simp; try with_reducible rfl
              simp only [Act.put, List.setIfInBounds_toArray, List.set_cons_zero, List.set_cons_succ, List.getElem_toArray, List.getElem_cons_succ, List.getElem_cons_zero]
              refine wpAnyK_take (i := 10) (v := ?_) rfl (by kernel_rfl) (by kernel_rfl) (by kernel_rfl) (by kernel_rfl) (fun _ _ _ h => h) (Or.inl ⟨by rfl, ?_⟩) hS ?_
              rotate_left
              · intro w0 hS0; obtain ⟨q0, q1, q2⟩ := hS0; go_simp; try with_reducible rfl
              simp only [Act.put, List.setIfInBounds_toArray, List.set_cons_zero, List.set_cons_succ, List.getElem_toArray, List.getElem_cons_succ, List.getElem_cons_zero]
              refine wpAnyK_take (i := 11) (v := ?_) rfl (by kernel_rfl) (by kernel_rfl) (by kernel_rfl) (by kernel_rfl) (fun _ _ _ h => h) (Or.inl ⟨by rfl, ?_⟩) hS ?_
              rotate_left
              · intro w0 hS0; obtain ⟨q0, q1, q2⟩ := hS0; go_simp; try with_reducible rfl
              simp only [Act.put, List.setIfInBounds_toArray, List.set_cons_zero, List.set_cons_succ, List.getElem_toArray, List.getElem_cons_succ, List.getElem_cons_zero]
              refine wpAnyK_take (i := 12) (v := ?_) rfl (by kernel_rfl) (by kernel_rfl) (by kernel_rfl) (by kernel_rfl) (fun _ _ _ h => h) (Or.inl ⟨by rfl, ?_⟩) hS ?_
              rotate_left
              · intro w0 hS0; obtain ⟨q0, q1, q2⟩ := hS0; go_simp; try with_reducible rfl
              simp only [Act.put, List.setIfInBounds_toArray, List.set_cons_zero, List.set_cons_succ, List.getElem_toArray, List.getElem_cons_succ, List.getElem_cons_zero]
              refine wpAnyK_take (i := 13) (v := ?_) rfl (by kernel_rfl) (by kernel_rfl) (by kernel_rfl) (by kernel_rfl) (fun _ _ _ h => h) (Or.inl ⟨by rfl, ?_⟩) hS ?_
              rotate_left
              · intro w0 hS0; obtain ⟨q0, q1, q2⟩ := hS0; go_simp; try with_reducible rfl
              simp only [Act.put, List.setIfInBounds_toArray, List.set_cons_zero, List.set_cons_succ, List.getElem_toArray, List.getElem_cons_succ, List.getElem_cons_zero]
              refine wpAnyK_take (i := 14) (v := ?_) rfl (by kernel_rfl) (by kernel_rfl) (by kernel_rfl) (by kernel_rfl) (fun _ _ _ h => h) (Or.inl ⟨by rfl, ?_⟩) hS ?_
              rotate_left
              · intro w0 hS0; obtain ⟨q0, q1, q2⟩ := hS0; go_simp; try with_reducible rfl
              simp only [Act.put, List.setIfInBounds_toArray, List.set_cons_zero, List.set_cons_succ, List.getElem_toArray, List.getElem_cons_succ, List.getElem_cons_zero]
              clear hS c0 g1 ey
              refine wpAnyK_one (i := 15) rfl (by kernel_rfl) rfl ?_
              go_simp
              refine wpAnyK_one (i := 16) rfl (by kernel_rfl) rfl ?_
              go_simp
              refine wpAnyK_done (by kernel_rfl) ?_ _
              go_wp2_with fail
              go_roundw
              case rel => exact ⟨i + 1, hlt, by go_num, Lib.hid (STEP.out wr.drew (fun _ h => h.drew) ((Env.refl _).drew))⟩
              case measure => simp [intOf]; omega
            · obtain rfl : i = xs.length := by omega
              obtain ⟨_, v2, z2, e2⟩ := fzo k o HO.out
              have DONE : Hid (∀ wx, (∀ mr, Has wr mr → Has wx mr) → ∃ m2 r2, Has (wx.setCell ⟨ob, k * 3 + 2, none⟩ (.int .i64 ((ps + xs.length : Nat) : Int))) m2 ∧ RR m2 rb r2 ∧ Fr m m2 (RFP rb r) (RFP rb r2) ∧ r2.abs = (r.abs.tick.setF f.name (Proofs.YtcdmdkgiabfbeaaGreatDoor.wr B ps xs)).setH (k - 1) (some (f.name, md, ps + xs.length))) := Lib.hid (fun wx hwx => by
                have h0 := HX.out
                rw [List.take_length] at h0
                exact DONE0.out bv _ w wr h0 (ps + xs.length) (by omega) wx hwx)
              have NX : Hid (Env w wr) := Lib.hid (by obtain ⟨mr, _, h2, _⟩ := HX.out; exact h2)
              clear fzo hbyte c0 g1 flt W0 HX
              go_wp2_with fail
              go_ret
              rw [HW.out, WG.out]
              obtain ⟨m2, r2, a1, a2, a3, a4⟩ := DONE.out wr (fun _ h => h)
              rw [Int.natCast_add] at a1
              exact ⟨_, m2, rfl, a1, NX.out.setCell _ _, r2, a2, a3, a4, rfl, trivial⟩
end Go.Proofs.YtcdmdkgiabfbeaaGreatDoor
