/-
  FilesNothing, the walk. (printed by nothing_gen.py)
-/
import Derived.Test.YtcdmdkgiabfbeaaGreatDoorSteps
import Derived.Test.YtcdmdkgiabfbeaaGreatDoorNil
namespace Go.Proofs.YtcdmdkgiabfbeaaGreatDoor
open Go.RowKit

set_option maxHeartbeats 4000000 in
set_option maxRecDepth 100000 in
theorem nothing_any (lv : Value) (sl : List Stp) (w : World) (m : Mem) (hm : Has w m) (hG : GlobOk m) (hs : StepsK m lv sl) :
    Calls Tryz.prog 3 #[lv] w (Post w m fun v _ => v = .bool true) := by
  obtain ⟨la, lc, rfl⟩ := hs.win.shape
  have hsl := hs.len
  have H := Lib.hid hm
  have HG := Lib.hid hG
  have HS := Lib.hid hs
  clear hm hG hs
  have AW : Hid (∀ w1 m1, m.le m1 → Has w1 m1 → Env w w1 → Calls Tryz.prog 7 #[] w1 (Post w m fun v _ => v = .bool true)) := Lib.hid (fun w1 m1 l1 h1 n1 => by
    refine (awake_any w1 m1 h1 (HG.out.le l1)).mono ?_
    rintro e w2 ⟨v, m2, rfl, l2, h2, n2, rfl⟩
    exact Post.mk m2 (Mem.le_trans l1 l2) h2 (n1.trans n2) rfl)
  go_enter Tryz.func3, Tryz.ntmps3
  go_wp2_with fail
  refine (much_any (.slice none 0 0) [] none 0 0 _ sl w m H.out (.inl ⟨rfl, rfl⟩) (by simp) (by simp) (by simp) HS.out).mono ?_
  rintro e w2 ⟨v, m2, rfl, l2, h2, n2, t, rfl, hv⟩
  have L2 := Lib.hid l2
  have H2 := Lib.hid h2
  have N2 := Lib.hid n2
  clear l2 h2 n2 hv
  cases t with
  | true =>
    go_wp2_with fail
    refine (AW.out _ _ L2.out H2.out N2.out).mono ?_
    rintro e w3 ⟨v, m3, rfl, l3, h3, n3, rfl⟩
    have P3 := Lib.hid (Post.mk (R := fun v _ => v = .bool true) m3 l3 h3 n3 rfl)
    clear l3 h3 n3
    go_wp2_with fail
    go_ret
    exact P3.out
  | false =>
    go_wp2_with fail
    go_loopw [4] (fun i wr => ∃ k : Nat, k ≤ sl.length ∧ i = .int .i64 k ∧ Hid (∃ mr, m.le mr ∧ Has wr mr ∧ Env w wr)) (fun i _ => sl.length - (intOf i).toNat)
    case atStart => exact ⟨0, Nat.zero_le _, rfl, Lib.hid ⟨m2, L2.out, H2.out, N2.out⟩⟩
    case round =>
      obtain ⟨k, hk, rfl, hX⟩ := hrel
      obtain ⟨mr, lr, hwr, nr⟩ := hX.out
      by_cases hlt : k < sl.length
      · obtain ⟨gb, go, cap, hla, hc⟩ := WindK.cells HS.out.win (by omega)
        simp only [Value.slice.injEq] at hla
        obtain ⟨rfl, _, rfl⟩ := hla
        obtain ⟨e0, e1, e2, e3, e4, e5⟩ := StepsK.at (hc.le lr) hwr hlt
        have glt : gb < wr.heap.size := by
          obtain ⟨c, e, fz, h1, _⟩ := hc.le lr
          exact hwr.lt h1
        have zw := HS.out.wind _ (List.getElem_mem hlt)
        obtain ⟨⟨kd, nm, to', sid, sn, bv, bs⟩, hsk⟩ : ∃ f, f = sl[k] := ⟨_, rfl⟩
        rw [← hsk] at e0 e1 e2 e3 e4 e5 zw
        simp only at e0 e1 e2 e3 e4 e5 zw
        obtain ⟨ya, yc, rfl⟩ := zw.shape
        have HX := Lib.hid (hwr.alloc (.cells #[.int .i64 kd, .string nm, .string to', .int .i64 sid, .int .i64 sn, .slice ya bs.length yc] 28))
        have LX := Lib.hid (Mem.le_set_of lr (.cells #[.int .i64 kd, .string nm, .string to', .int .i64 sid, .int .i64 sn, .slice ya bs.length yc] 28) (Mem.none_le lr (hwr.fresh (Nat.le_refl _))))
        have NX := Lib.hid (nr.alloc (.cells #[.int .i64 kd, .string nm, .string to', .int .i64 sid, .int .i64 sn, .slice ya bs.length yc] 28))
        have BX := Lib.hid (Mem.set_same mr wr.heap.size (.cells #[.int .i64 kd, .string nm, .string to', .int .i64 sid, .int .i64 sn, .slice ya bs.length yc] 28))
        clear hsk hc zw lr hwr nr hX
        have H5 := HX
        have N5 := NX
        clear HX NX
        go_wp2_with fail
        refine (create_nil nm sn _ _ H5.out).mono ?_
        rintro e w6 ⟨v, m6, rfl, l, h6, n6, hv⟩
        obtain rfl : v = .tuple #[.int .i64 0, .int .i64 0] := hv
        have LX' := Lib.hid (Mem.le_trans LX.out l)
        have BX' := Lib.hid (l _ _ BX.out)
        clear LX BX
        have LX := LX'
        have BX := BX'
        have H6 := Lib.hid h6
        have N6 := Lib.hid (N5.out.trans n6)
        clear LX' BX' l h6 n6 e0 e1 e2 e3 e4 e5 glt N5 H5
        generalize mr.set wr.heap.size (.cells #[.int .i64 kd, .string nm, .string to', .int .i64 sid, .int .i64 sn, .slice ya bs.length yc] 28) = m5 at *
        generalize wr.heap.size = xb at *
        have c1 : w6.cell? ⟨xb, 1, none⟩ = some (.string nm) := by rw [H6.out.cell BX.out]; rfl
        have c2 : w6.cell? ⟨xb, 2, none⟩ = some (.string to') := by rw [H6.out.cell BX.out]; rfl
        have c3 : w6.cell? ⟨xb, 3, none⟩ = some (.int .i64 sid) := by rw [H6.out.cell BX.out]; rfl
        have c4 : w6.cell? ⟨xb, 4, none⟩ = some (.int .i64 sn) := by rw [H6.out.cell BX.out]; rfl
        have c5 : w6.cell? ⟨xb, 5, none⟩ = some (.slice ya bs.length yc) := by rw [H6.out.cell BX.out]; rfl
        have blt : xb < w6.heap.size := H6.out.lt BX.out
        go_wp2_with fail
        refine (read_nil sid sn _ _ H6.out).mono ?_
        rintro e w7 ⟨v, m7, rfl, l, h7, n7, hv⟩
        obtain rfl : v = .tuple #[.slice none 0 0, .int .i64 0] := hv
        have LX' := Lib.hid (Mem.le_trans LX.out l)
        have BX' := Lib.hid (l _ _ BX.out)
        clear LX BX
        have LX := LX'
        have BX := BX'
        have H7 := Lib.hid h7
        have N7 := Lib.hid (N6.out.trans n7)
        clear LX' BX' l h7 n7 c1 c2 c3 c4 c5 blt N6 H6
        have c1 : w7.cell? ⟨xb, 1, none⟩ = some (.string nm) := by rw [H7.out.cell BX.out]; rfl
        have c2 : w7.cell? ⟨xb, 2, none⟩ = some (.string to') := by rw [H7.out.cell BX.out]; rfl
        have c3 : w7.cell? ⟨xb, 3, none⟩ = some (.int .i64 sid) := by rw [H7.out.cell BX.out]; rfl
        have c4 : w7.cell? ⟨xb, 4, none⟩ = some (.int .i64 sn) := by rw [H7.out.cell BX.out]; rfl
        have c5 : w7.cell? ⟨xb, 5, none⟩ = some (.slice ya bs.length yc) := by rw [H7.out.cell BX.out]; rfl
        have blt : xb < w7.heap.size := H7.out.lt BX.out
        go_wp2_with fail
        refine (size_nil sid _ _ H7.out).mono ?_
        rintro e w8 ⟨v, m8, rfl, l, h8, n8, hv⟩
        obtain rfl : v = .tuple #[.int .i64 0, .int .i64 0] := hv
        have LX' := Lib.hid (Mem.le_trans LX.out l)
        have BX' := Lib.hid (l _ _ BX.out)
        clear LX BX
        have LX := LX'
        have BX := BX'
        have H8 := Lib.hid h8
        have N8 := Lib.hid (N7.out.trans n8)
        clear LX' BX' l h8 n8 c1 c2 c3 c4 c5 blt N7 H7
        have c1 : w8.cell? ⟨xb, 1, none⟩ = some (.string nm) := by rw [H8.out.cell BX.out]; rfl
        have c2 : w8.cell? ⟨xb, 2, none⟩ = some (.string to') := by rw [H8.out.cell BX.out]; rfl
        have c3 : w8.cell? ⟨xb, 3, none⟩ = some (.int .i64 sid) := by rw [H8.out.cell BX.out]; rfl
        have c4 : w8.cell? ⟨xb, 4, none⟩ = some (.int .i64 sn) := by rw [H8.out.cell BX.out]; rfl
        have c5 : w8.cell? ⟨xb, 5, none⟩ = some (.slice ya bs.length yc) := by rw [H8.out.cell BX.out]; rfl
        have blt : xb < w8.heap.size := H8.out.lt BX.out
        go_wp2_with fail
        refine (write_nil sid _ _ _ H8.out ⟨_, _, _, rfl⟩).mono ?_
        rintro e w9 ⟨v, m9, rfl, l, h9, n9, hv⟩
        obtain rfl : v = .int .i64 0 := hv
        have LX' := Lib.hid (Mem.le_trans LX.out l)
        have BX' := Lib.hid (l _ _ BX.out)
        clear LX BX
        have LX := LX'
        have BX := BX'
        have H9 := Lib.hid h9
        have N9 := Lib.hid (N8.out.trans n9)
        clear LX' BX' l h9 n9 c1 c2 c3 c4 c5 blt N8 H8
        have c1 : w9.cell? ⟨xb, 1, none⟩ = some (.string nm) := by rw [H9.out.cell BX.out]; rfl
        have c2 : w9.cell? ⟨xb, 2, none⟩ = some (.string to') := by rw [H9.out.cell BX.out]; rfl
        have c3 : w9.cell? ⟨xb, 3, none⟩ = some (.int .i64 sid) := by rw [H9.out.cell BX.out]; rfl
        have c4 : w9.cell? ⟨xb, 4, none⟩ = some (.int .i64 sn) := by rw [H9.out.cell BX.out]; rfl
        have c5 : w9.cell? ⟨xb, 5, none⟩ = some (.slice ya bs.length yc) := by rw [H9.out.cell BX.out]; rfl
        have blt : xb < w9.heap.size := H9.out.lt BX.out
        go_wp2_with fail
        refine (seek_nil sid sn _ _ H9.out).mono ?_
        rintro e w10 ⟨v, m10, rfl, l, h10, n10, hv⟩
        obtain rfl : v = .int .i64 0 := hv
        have LX' := Lib.hid (Mem.le_trans LX.out l)
        have BX' := Lib.hid (l _ _ BX.out)
        clear LX BX
        have LX := LX'
        have BX := BX'
        have H10 := Lib.hid h10
        have N10 := Lib.hid (N9.out.trans n10)
        clear LX' BX' l h10 n10 c1 c2 c3 c4 c5 blt N9 H9
        have c1 : w10.cell? ⟨xb, 1, none⟩ = some (.string nm) := by rw [H10.out.cell BX.out]; rfl
        have c2 : w10.cell? ⟨xb, 2, none⟩ = some (.string to') := by rw [H10.out.cell BX.out]; rfl
        have c3 : w10.cell? ⟨xb, 3, none⟩ = some (.int .i64 sid) := by rw [H10.out.cell BX.out]; rfl
        have c4 : w10.cell? ⟨xb, 4, none⟩ = some (.int .i64 sn) := by rw [H10.out.cell BX.out]; rfl
        have c5 : w10.cell? ⟨xb, 5, none⟩ = some (.slice ya bs.length yc) := by rw [H10.out.cell BX.out]; rfl
        have blt : xb < w10.heap.size := H10.out.lt BX.out
        go_wp2_with fail
        refine (delete_nil nm _ _ H10.out).mono ?_
        rintro e w11 ⟨v, m11, rfl, l, h11, n11, hv⟩
        obtain rfl : v = .int .i64 0 := hv
        have LX' := Lib.hid (Mem.le_trans LX.out l)
        have BX' := Lib.hid (l _ _ BX.out)
        clear LX BX
        have LX := LX'
        have BX := BX'
        have H11 := Lib.hid h11
        have N11 := Lib.hid (N10.out.trans n11)
        clear LX' BX' l h11 n11 c1 c2 c3 c4 c5 blt N10 H10
        have c1 : w11.cell? ⟨xb, 1, none⟩ = some (.string nm) := by rw [H11.out.cell BX.out]; rfl
        have c2 : w11.cell? ⟨xb, 2, none⟩ = some (.string to') := by rw [H11.out.cell BX.out]; rfl
        have c3 : w11.cell? ⟨xb, 3, none⟩ = some (.int .i64 sid) := by rw [H11.out.cell BX.out]; rfl
        have c4 : w11.cell? ⟨xb, 4, none⟩ = some (.int .i64 sn) := by rw [H11.out.cell BX.out]; rfl
        have c5 : w11.cell? ⟨xb, 5, none⟩ = some (.slice ya bs.length yc) := by rw [H11.out.cell BX.out]; rfl
        have blt : xb < w11.heap.size := H11.out.lt BX.out
        go_wp2_with fail
        refine (rename_nil nm to' _ _ H11.out).mono ?_
        rintro e w12 ⟨v, m12, rfl, l, h12, n12, hv⟩
        obtain rfl : v = .int .i64 0 := hv
        have LX' := Lib.hid (Mem.le_trans LX.out l)
        have BX' := Lib.hid (l _ _ BX.out)
        clear LX BX
        have LX := LX'
        have BX := BX'
        have H12 := Lib.hid h12
        have N12 := Lib.hid (N11.out.trans n12)
        clear LX' BX' l h12 n12 c1 c2 c3 c4 c5 blt N11 H11
        have c1 : w12.cell? ⟨xb, 1, none⟩ = some (.string nm) := by rw [H12.out.cell BX.out]; rfl
        have c2 : w12.cell? ⟨xb, 2, none⟩ = some (.string to') := by rw [H12.out.cell BX.out]; rfl
        have c3 : w12.cell? ⟨xb, 3, none⟩ = some (.int .i64 sid) := by rw [H12.out.cell BX.out]; rfl
        have c4 : w12.cell? ⟨xb, 4, none⟩ = some (.int .i64 sn) := by rw [H12.out.cell BX.out]; rfl
        have c5 : w12.cell? ⟨xb, 5, none⟩ = some (.slice ya bs.length yc) := by rw [H12.out.cell BX.out]; rfl
        have blt : xb < w12.heap.size := H12.out.lt BX.out
        go_wp2_with fail
        refine (close_nil sid _ _ H12.out).mono ?_
        rintro e w13 ⟨v, m13, rfl, l, h13, n13, hv⟩
        obtain rfl : v = .int .i64 0 := hv
        have LX' := Lib.hid (Mem.le_trans LX.out l)
        have BX' := Lib.hid (l _ _ BX.out)
        clear LX BX
        have LX := LX'
        have BX := BX'
        have H13 := Lib.hid h13
        have N13 := Lib.hid (N12.out.trans n13)
        clear LX' BX' l h13 n13 c1 c2 c3 c4 c5 blt N12 H12
        have c1 : w13.cell? ⟨xb, 1, none⟩ = some (.string nm) := by rw [H13.out.cell BX.out]; rfl
        have c2 : w13.cell? ⟨xb, 2, none⟩ = some (.string to') := by rw [H13.out.cell BX.out]; rfl
        have c3 : w13.cell? ⟨xb, 3, none⟩ = some (.int .i64 sid) := by rw [H13.out.cell BX.out]; rfl
        have c4 : w13.cell? ⟨xb, 4, none⟩ = some (.int .i64 sn) := by rw [H13.out.cell BX.out]; rfl
        have c5 : w13.cell? ⟨xb, 5, none⟩ = some (.slice ya bs.length yc) := by rw [H13.out.cell BX.out]; rfl
        have blt : xb < w13.heap.size := H13.out.lt BX.out
        go_wp2_with fail
        refine (ops_nil w13).mono ?_
        rintro e w9 ⟨rfl, rfl⟩
        go_wp2_with fail
        refine (files_nil _).mono ?_
        rintro e w9 ⟨rfl, rfl⟩
        go_wp2_with fail
        go_roundw
        case rel => exact ⟨k + 1, hlt, by go_num, Lib.hid ⟨_, LX.out, H13.out, N13.out⟩⟩
        case measure => simp [intOf]; omega
      · have LR := Lib.hid lr
        have HR := Lib.hid hwr
        have NR := Lib.hid nr
        clear lr hwr nr hX
        go_wp2_with fail
        refine (AW.out _ _ LR.out HR.out NR.out).mono ?_
        rintro e w3 ⟨v, m3, rfl, l3, h3, n3, rfl⟩
        have P3 := Lib.hid (Post.mk (R := fun v _ => v = .bool true) m3 l3 h3 n3 rfl)
        clear l3 h3 n3
        go_wp2_with fail
        go_ret
        exact P3.out
end Go.Proofs.YtcdmdkgiabfbeaaGreatDoor
