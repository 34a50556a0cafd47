/-
  awake: what the document fixes.
-/
import Derived.Test.YtcdmdkgiabfbeaaDoorOwn
import Derived.Lib.SlBytesConst
namespace Go.Proofs.YtcdmdkgiabfbeaaDoor
open Go.RowKit

def awFl : List File2 := [(⟨#[97]⟩, ⟨#[120, 10, 121, 122]⟩)]
def aw1 : A := ((A0 awFl []).tick).setH 0 (some (⟨#[97]⟩, 1, 0))
def aw2 : A := aw1.tick.setH 0 (some (⟨#[97]⟩, 1, 2))

theorem aw_nameA : isNameB ⟨#[97]⟩ = true := by rw [isNameB_eq]; rfl
theorem aw_new : newE awFl 0 = 0 := by
  have h1 : sizeE (newE1 awFl 0) awFl = 0 := by kernel_rfl
  unfold newE
  rw [h1]
  unfold scanE
  rw [if_neg (by simp), if_pos]
  refine ⟨by simp [awFl], fun f hf => ?_⟩
  obtain rfl := List.mem_singleton.1 hf
  exact aw_nameA
theorem aw_open : (A0 awFl []).openF ⟨#[97]⟩ 1 = (aw1, 0, 1) := by
  have h : (A0 awFl []).openX ⟨#[97]⟩ 1 = 0 := by
    unfold A.openX
    rw [aw_nameA]
    kernel_rfl
  unfold A.openF
  rw [if_neg (fun c => c h)]
  rfl
theorem aw_line : A.withA aw1 1 ([], false) (lineF (1 - 1 : Int).toNat 9) = (aw2, 0, ([120], true)) := by kernel_rfl
theorem aw_write : A.withA aw2 1 () (writeF (1 - 1 : Int).toNat [113]) = (aw2.tick, -20, ()) := by kernel_rfl

set_option maxHeartbeats 4000000 in
set_option maxRecDepth 100000 in
theorem awake_any (w : World) (m : Mem) (hm : Has w m) (hG : GlobOk m) :
    Calls Tryd.prog 6 #[] w (Post w m fun v _ => v = .bool true) := by
  have hfr := hm.fresh (Nat.le_refl w.heap.size)
  have h1 := hm.alloc (.cells #[.string ⟨#[97]⟩, .string ⟨#[120, 10, 121, 122]⟩] 29)
  have l1 := Mem.le_set m (.cells #[.string ⟨#[97]⟩, .string ⟨#[120, 10, 121, 122]⟩] 29) hfr
  have NW := new_any (.slice (some ⟨w.heap.size, 0, none⟩) 1 1) (.slice none 0 0) awFl [] _ _ h1 (WindK.at (Cells.whole (Mem.set_same _ _ _) rfl)) (.inl ⟨rfl, rfl⟩) (by decide) (by decide) (by decide)
  have HNW := Lib.hid NW
  have L1 := Lib.hid l1
  have HG := Lib.hid hG
  clear hm h1 l1 NW hfr hG
  go_enter Tryd.func6, Tryd.ntmps6
  go_wp2_with fail
  refine HNW.out.mono ?_
  rintro e w2 ⟨v, m2, rfl, l2, h2, n2, hv⟩
  obtain ⟨sb, g, rfl, ow, ha⟩ := (hv.own l2 aw_new)
  have ow0 : Own m sb g m2 := ⟨Mem.le_trans L1.out ow.le, ow.rep, fun b hb => Mem.none_le L1.out (ow.new b hb)⟩
  have OW := Lib.hid ow0
  have H2 := Lib.hid h2
  have N2 := Lib.hid (((Env.refl w).alloc (.cells #[.string ⟨#[97]⟩, .string ⟨#[120, 10, 121, 122]⟩] 29)).trans n2)
  have HA := Lib.hid ha
  clear l2 h2 n2 hv ow ow0 ha
  go_wp2_with fail
  have hn0 : g.n ≤ 999999 := by
    have h : g.abs.n = 0 := by rw [HA.out]; rfl
    have h' : g.n = 0 := h
    omega
  refine (open_any sb ⟨#[97]⟩ 1 g w2 m2 H2.out OW.out.rep (OW.out.glob HG.out) (OW.out.zero HG.out) hn0).mono ?_
  rintro e w3 ⟨v, x, m3, rfl, h3, n3, hop⟩
  rw [HA.out, aw_open] at hop
  obtain ⟨g3, ow3, ha3, rfl, rfl⟩ := OW.out.step hop
  have OW3 := Lib.hid ow3
  have H3 := Lib.hid h3
  have N3 := Lib.hid (N2.out.trans n3)
  have HA3 := Lib.hid ha3
  clear h3 n3 hop ow3 ha3
  go_wp2_with fail
  have hn3 : g3.n ≤ 999999 := by
    have h : g3.abs.n = 1 := by rw [HA3.out]; rfl
    have h' : g3.n = 1 := h
    omega
  refine (line_any sb 1 9 g3 w3 m3 H3.out OW3.out.rep (OW3.out.glob HG.out) (OW3.out.zero HG.out) hn3).mono ?_
  rintro e w4 ⟨v, b, x, m4, rfl, h4, n4, hop⟩
  rw [HA3.out] at hop
  change OpR m3 sb g3 _ (A.withA aw1 1 ([], false) (lineF (1 - 1 : Int).toNat 9)) _ m4 x at hop
  rw [aw_line] at hop
  obtain ⟨g4, ow4, ha4, rfl, hb, rfl⟩ := OW3.out.step hop
  have OW4 := Lib.hid ow4
  have H4 := Lib.hid h4
  have N4 := Lib.hid (N3.out.trans n4)
  have HA4 := Lib.hid ha4
  have CV := conv_back (row_wind hb.1) w4 h4
  obtain ⟨va, vc, rfl, _⟩ := hb.1.lenV
  have CV' : (convert 33 9 (.slice va 1 vc)).run Tryd.prog w4 = .ok (.string ⟨#[120]⟩) w4 := CV
  have hfr := h4.fresh (Nat.le_refl w4.heap.size)
  have h5 := h4.alloc (.cells #[.int .u8 113] 5 (#[Value.int .u8 113].size, #[Value.int .u8 113].size + 1))
  have l5 := Mem.le_set m4 (.cells #[.int .u8 113] 5 (#[Value.int .u8 113].size, #[Value.int .u8 113].size + 1)) hfr
  have H5 := Lib.hid h5
  have OW5 := Lib.hid (ow4.grow l5)
  have N5 := Lib.hid (N4.out.alloc (.cells #[.int .u8 113] 5 (#[Value.int .u8 113].size, #[Value.int .u8 113].size + 1)))
  have HFR := Lib.hid hfr
  have C5 : Hid (Cells (m4.set w4.heap.size (.cells #[.int .u8 113] 5 (#[Value.int .u8 113].size, #[Value.int .u8 113].size + 1))) w4.heap.size 0 [.int .u8 113]) := Lib.hid (Cells.whole (Mem.set_same _ _ _) rfl)
  have hcs := Lib.run_convert_bytes_const (P := Tryd.prog) w4 33 5 #[.int .u8 113] 1 1 Tryd.underlying33 Tryd.underlying5
  clear h4 n4 hop ow4 ha4 hb CV h5 l5 hfr
  go_wp2_with fail
  have hn4 : g4.n ≤ 999999 := by
    have h : g4.abs.n = 2 := by rw [HA4.out]; rfl
    have h' : g4.n = 2 := h
    omega
  refine (write_any sb 1 (.slice (some ⟨w4.heap.size, 0, none⟩) 1 1) [113] g4 _ _ H5.out OW5.out.rep (OW5.out.glob HG.out) (OW5.out.zero HG.out) hn4 (Wind.z (.inr ⟨w4.heap.size, 0, 1, rfl, Nat.le_refl _, by decide, C5.out⟩)) (fun _ b hb => by
    obtain rfl : w4.heap.size = b := Option.some.inj hb
    exact OW4.out.rep.unknown HFR.out) (by decide)).mono ?_
  rintro e w6 ⟨x, m6, rfl, h6, n6, hop⟩
  rw [HA4.out] at hop
  change OpR _ sb g4 _ (A.withA aw2 1 () (writeF (1 - 1 : Int).toNat [113])) _ m6 x at hop
  rw [aw_write] at hop
  obtain ⟨g6, ow6, ha6, rfl, _⟩ := OW5.out.step hop
  have OW6 := Lib.hid ow6
  have H6 := Lib.hid h6
  have N6 := Lib.hid (N5.out.trans n6)
  clear h6 n6 hop ow6 ha6
  go_wp2_with fail
  go_ret
  exact Post.mk m6 OW6.out.le H6.out N6.out rfl
end Go.Proofs.YtcdmdkgiabfbeaaDoor
