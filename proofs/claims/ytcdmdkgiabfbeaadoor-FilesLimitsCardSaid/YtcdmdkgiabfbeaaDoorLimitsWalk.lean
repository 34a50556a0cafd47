/-
  FilesLimits, the walk. (printed by limits_gen.py)
-/
import Derived.Test.YtcdmdkgiabfbeaaDoorFilesEq
import Derived.Test.YtcdmdkgiabfbeaaDoorAwake
namespace Go.Proofs.YtcdmdkgiabfbeaaDoor
open Go.RowKit

theorem flat_byte (n : Nat) : (List.replicate n ([.int .u8 0] : List Value)).flatten = (List.replicate n (0 : UInt8)).map byteV := by
  induction n with
  | zero => rfl
  | succ n ih => rw [List.replicate_succ, List.flatten_cons, ih, List.replicate_succ, List.map_cons]; rfl
theorem flat_fail (n : Nat) : (List.replicate n ([.int .i64 0, .int .i64 0, .int .i64 0] : List Value)).flatten = (List.replicate n ((0, 0, 0) : Fail3)).flatMap failCells := by
  induction n with
  | zero => rfl
  | succ n ih => rw [List.replicate_succ, List.flatten_cons, ih, List.replicate_succ, List.flatMap_cons]; rfl
theorem row_windK {m : Mem} {v : Value} {e : TypeId} {k n : Nat} {xs : List Value} (h : Row m v e k n xs) : WindK m v n xs := by
  have h' := h
  obtain ⟨_, ⟨rfl, rfl⟩ | ⟨g, cap, cur, fz, rfl, _⟩⟩ := h
  · exact .inl ⟨rfl, rfl⟩
  · exact .inr ⟨_, cap, rfl, fun _ => ⟨g, 0, rfl, h'.cells⟩⟩
theorem ents_of {F : List RF} {L : List Ent} (h : F.map (fun f => (f.name, f.bs)) = (⟨#[]⟩, []) :: L.map fun e => (e.name, e.bs)) (hn : ∀ e ∈ L, e.name ≠ ⟨#[]⟩) : ents F = L.map fun e => (e.name, (⟨e.bs.toArray⟩ : ByteArray)) := by
  have h1 : ents F = ((F.map fun f => (f.name, f.bs)).filter fun p => decide (p.1 ≠ ⟨#[]⟩)).map fun p => (p.1, (⟨p.2.toArray⟩ : ByteArray)) := by
    unfold ents
    rw [List.filter_map, List.map_map]
    rfl
  rw [h1, h, List.filter_cons, if_neg (by simp), List.filter_eq_self.2, List.map_map]
  · rfl
  · intro p hp
    obtain ⟨e, he, rfl⟩ := List.mem_map.1 hp
    simpa using hn e he
theorem byte_small {z : Int} {n : Nat} (h : z = n) (hn : n < 256) : Value.int .u8 z = byteV (UInt8.ofNat n) := by
  unfold byteV
  rw [h]
  congr 2
  rw [UInt8.toNat_ofNat']
  omega

set_option maxHeartbeats 1000000 in
set_option maxRecDepth 100000 in
theorem limits_any (n : Int) (name : ByteArray) (size fails : Int) (w : World) (m : Mem) (hm : Has w m) (hG : GlobOk m) :
    Calls Tryd.prog 5 #[.int .i64 n, .string name, .int .i64 size, .int .i64 fails] w (Post w m fun v _ => v = .bool true) := by
  have H := Lib.hid hm
  have HG := Lib.hid hG
  clear hm hG
  have AW : Hid (∀ w1 m1, m.le m1 → Has w1 m1 → Env w w1 → Calls Tryd.prog 6 #[] w1 (Post w m fun v _ => v = .bool true)) := Lib.hid (fun w1 m1 l1 h1 n1 => by
    refine (awake_any w1 m1 h1 (HG.out.le l1)).mono ?_
    rintro e w2 ⟨v, m2, rfl, l2, h2, n2, rfl⟩
    exact Post.mk m2 (Mem.le_trans l1 l2) h2 (n1.trans n2) rfl)
  by_cases c1 : n < 0
  · go_enter Tryd.func5, Tryd.ntmps5
    go_wp2_with fail
    refine (AW.out _ _ (Mem.le_refl _) H.out (Env.refl _)).mono ?_
    rintro e w9 ⟨v, m9, rfl, l9, h9, n9, rfl⟩
    have P9 := Lib.hid (Post.mk (R := fun v _ => v = .bool true) m9 l9 h9 n9 rfl)
    clear l9 h9 n9
    go_wp2_with fail
    go_ret
    exact P9.out
  by_cases c2 : 130 < n
  · go_enter Tryd.func5, Tryd.ntmps5
    go_wp2_with fail
    refine (AW.out _ _ (Mem.le_refl _) H.out (Env.refl _)).mono ?_
    rintro e w9 ⟨v, m9, rfl, l9, h9, n9, rfl⟩
    have P9 := Lib.hid (Post.mk (R := fun v _ => v = .bool true) m9 l9 h9 n9 rfl)
    clear l9 h9 n9
    go_wp2_with fail
    go_ret
    exact P9.out
  by_cases c3 : size < 0
  · go_enter Tryd.func5, Tryd.ntmps5
    go_wp2_with fail
    refine (AW.out _ _ (Mem.le_refl _) H.out (Env.refl _)).mono ?_
    rintro e w9 ⟨v, m9, rfl, l9, h9, n9, rfl⟩
    have P9 := Lib.hid (Post.mk (R := fun v _ => v = .bool true) m9 l9 h9 n9 rfl)
    clear l9 h9 n9
    go_wp2_with fail
    go_ret
    exact P9.out
  by_cases c4 : 300000 < size
  · go_enter Tryd.func5, Tryd.ntmps5
    go_wp2_with fail
    refine (AW.out _ _ (Mem.le_refl _) H.out (Env.refl _)).mono ?_
    rintro e w9 ⟨v, m9, rfl, l9, h9, n9, rfl⟩
    have P9 := Lib.hid (Post.mk (R := fun v _ => v = .bool true) m9 l9 h9 n9 rfl)
    clear l9 h9 n9
    go_wp2_with fail
    go_ret
    exact P9.out
  by_cases c5 : fails < 0
  · go_enter Tryd.func5, Tryd.ntmps5
    go_wp2_with fail
    refine (AW.out _ _ (Mem.le_refl _) H.out (Env.refl _)).mono ?_
    rintro e w9 ⟨v, m9, rfl, l9, h9, n9, rfl⟩
    have P9 := Lib.hid (Post.mk (R := fun v _ => v = .bool true) m9 l9 h9 n9 rfl)
    clear l9 h9 n9
    go_wp2_with fail
    go_ret
    exact P9.out
  by_cases c6 : 1100 < fails
  · go_enter Tryd.func5, Tryd.ntmps5
    go_wp2_with fail
    refine (AW.out _ _ (Mem.le_refl _) H.out (Env.refl _)).mono ?_
    rintro e w9 ⟨v, m9, rfl, l9, h9, n9, rfl⟩
    have P9 := Lib.hid (Post.mk (R := fun v _ => v = .bool true) m9 l9 h9 n9 rfl)
    clear l9 h9 n9
    go_wp2_with fail
    go_ret
    exact P9.out
  by_cases c7 : 300 < (name.size : Int)
  · go_enter Tryd.func5, Tryd.ntmps5
    go_wp2_with fail
    refine (AW.out _ _ (Mem.le_refl _) H.out (Env.refl _)).mono ?_
    rintro e w9 ⟨v, m9, rfl, l9, h9, n9, rfl⟩
    have P9 := Lib.hid (Post.mk (R := fun v _ => v = .bool true) m9 l9 h9 n9 rfl)
    clear l9 h9 n9
    go_wp2_with fail
    go_ret
    exact P9.out
  obtain ⟨n, rfl⟩ : ∃ a : Nat, n = a := ⟨n.toNat, by omega⟩
  obtain ⟨size, rfl⟩ : ∃ a : Nat, size = a := ⟨size.toNat, by omega⟩
  obtain ⟨fails, rfl⟩ : ∃ a : Nat, fails = a := ⟨fails.toNat, by omega⟩
  go_enter Tryd.func5, Tryd.ntmps5
  go_wp2_with fail
  go_loopw [9, 10] (fun v i wr => ∃ (k : Nat) (fl : List File2) (xa : Option Addr) (xc : Nat), k ≤ n ∧ fl.length = k ∧ i = .int .i64 k ∧ v = .slice xa k xc ∧ Hid (∃ mr, m.le mr ∧ Has wr mr ∧ Env w wr ∧ FilesR m fl (.slice xa k xc) mr) ∧ Hid (∀ f ∈ fl, f.2.size = 0)) (fun _ i _ => n - (intOf i).toNat)
  case atStart => exact ⟨0, [], none, 0, Nat.zero_le _, rfl, rfl, rfl, Lib.hid ⟨m, Mem.le_refl _, H.out, Env.refl _, Row.nil _ _ _, fun b hb => by cases hb⟩, Lib.hid (by simp)⟩
  case round =>
    obtain ⟨k, fl, xa, xc, hk, hfl, rfl, rfl, HX, HZ⟩ := hrel
    obtain ⟨mr, lr, hwr, nr, row, own⟩ := HX.out
    by_cases hlt : k < n
    · have hb1 : Value.int .u8 (97 + (k : Int) % 26) = byteV (UInt8.ofNat (97 + k % 26)) := byte_small (by omega) (by omega)
      have hb2 : Value.int .u8 (97 + (k : Int) / 26) = byteV (UInt8.ofNat (97 + k / 26)) := byte_small (by omega) (by omega)
      have hsn : (name.size : Int) + 2 ≤ 302 := by omega
      have h4 := hwr.alloc (.cells #[.int .u8 (97 + (k : Int) % 26), .int .u8 (97 + (k : Int) / 26)] 5)
      have l4 := Mem.le_set mr (.cells #[.int .u8 (97 + (k : Int) % 26), .int .u8 (97 + (k : Int) / 26)] 5) (hwr.fresh (Nat.le_refl _))
      have CV : (convert 33 9 (.slice (some ⟨wr.heap.size, 0, none⟩) 2 2)).run Tryd.prog (wr.alloc (.cells #[.int .u8 (97 + (k : Int) % 26), .int .u8 (97 + (k : Int) / 26)] 5)) = .ok (.string ⟨#[UInt8.ofNat (97 + k % 26), UInt8.ofNat (97 + k / 26)]⟩) (wr.alloc (.cells #[.int .u8 (97 + (k : Int) % 26), .int .u8 (97 + (k : Int) / 26)] 5)) :=
        conv_back (bs := [UInt8.ofNat (97 + k % 26), UInt8.ofNat (97 + k / 26)]) (.inr ⟨wr.heap.size, 0, 2, rfl, Nat.le_refl _, by decide, Cells.whole (Mem.set_same _ _ _) (by rw [hb1, hb2]; rfl)⟩) _ h4
      obtain ⟨s2, hs2⟩ : ∃ s2 : ByteArray, (⟨#[UInt8.ofNat (97 + k % 26), UInt8.ofNat (97 + k / 26)]⟩ : ByteArray) = s2 := ⟨_, rfl⟩
      have hs2s : s2.size = 2 := by rw [← hs2]; rfl
      rw [hs2] at CV
      have hsz : (name ++ s2).size ≤ 302 := by rw [ByteArray.size_append]; omega
      have h5 := h4.alloc (.cells #[.string (name ++ s2), .string ⟨#[]⟩] 29)
      have l5 := Mem.le_set _ (.cells #[.string (name ++ s2), .string ⟨#[]⟩] 29) (h4.fresh (Nat.le_refl _))
      obtain ⟨i0, hi, hz0, hz1, hz2⟩ := info_parts infoFile
      obtain ⟨v', w8, m8, hrun, n8, h8, row8, gr8⟩ := run_append_row (P := Tryd.prog) 30 30 29 i0 _ 2 32 Tryd.underlying30 hi hz0 hz1 hz2 rfl (by decide)
        h5 (.slice xa k xc) k (fl.flatMap fileCells) (by have h := (row.le (Mem.le_trans l4 l5)); rw [hfl] at h; exact h) _ 0 1 1 [.string (name ++ s2), .string ⟨#[]⟩] rfl (Cells.whole (Mem.set_same _ _ _) rfl) (by simp [Value.oneCell']) (by decide) (by omega) (by omega)
      rw [show (wr.alloc (.cells #[.int .u8 (97 + (k : Int) % 26), .int .u8 (97 + (k : Int) / 26)] 5)).heap.size = wr.heap.size + 1 from by simp] at hrun
      obtain ⟨va, vc, rfl, _⟩ := row8.lenV
      have lm8 : m.le m8 := fun b o hb => gr8.keep (l5 _ _ (l4 _ _ (lr _ _ hb))) (fun e => by have := own b e; rw [hb] at this; cases this)
      have own8 : ∀ b, (Value.slice va (k + 1) vc).ownBlock = some b → m b = none := fun b hb => by
        rcases gr8 with ⟨_, h2⟩ | ⟨gb, o, h2, _, h4'⟩
        · exact own b (by rw [← h2]; exact hb)
        · rw [hb] at h2
          obtain rfl := Option.some.inj h2
          rcases h4' with h4' | h4'
          · exact own b h4'
          · exact Mem.none_le lr (Mem.none_le l4 (Mem.none_le l5 h4'))
      have row8' : Row m8 (.slice va (k + 1) vc) 29 2 (fl ++ [(name ++ s2, (⟨#[]⟩ : ByteArray))]).length ((fl ++ [(name ++ s2, (⟨#[]⟩ : ByteArray))]).flatMap fileCells) := by
        rw [List.length_append, hfl, List.flatMap_append]; exact row8
      have HR8 : Hid (FilesR m (fl ++ [(name ++ s2, (⟨#[]⟩ : ByteArray))]) (.slice va (k + 1) vc) m8) := ⟨row8', own8⟩
      have LM8 := Lib.hid lm8
      have H8 := Lib.hid h8
      have N8 := Lib.hid (((nr.alloc (.cells #[.int .u8 (97 + (k : Int) % 26), .int .u8 (97 + (k : Int) / 26)] 5)).alloc (.cells #[.string (name ++ s2), .string ⟨#[]⟩] 29)).trans n8)
      have HFL := Lib.hid hfl
      clear hb1 hb2 h4 l4 h5 l5 hi hz0 hz1 hz2 n8 h8 row8 gr8 lm8 own8 row8' lr hwr nr row own hs2 HX hfl
      go_wp2_with (at_builtin; refine wpList_b2 rfl .append Builtin.append_ (fun _ _ _ _ => rfl) _ _ _ _ rfl rfl rfl hrun ?_)
      go_roundw
      case rel =>
        refine ⟨k + 1, fl ++ [(name ++ s2, ⟨#[]⟩)], va, vc, hlt, by rw [List.length_append, HFL.out]; rfl, by go_num, rfl, Lib.hid ⟨m8, LM8.out, H8.out, N8.out, HR8.out⟩, Lib.hid (fun f hf => ?_)⟩
        rcases List.mem_append.1 hf with hf | hf
        · exact HZ.out f hf
        · rw [List.mem_singleton.1 hf]; rfl
      case measure => simp [intOf]; omega
    · obtain rfl : k = n := by omega
      have HRO : Hid (FilesR m fl (.slice xa k xc) mr) := ⟨row, own⟩
      obtain ⟨iB, hiB, hzB0, hzB1, hzB2⟩ := info_parts infoB
      obtain ⟨w4, m4, hmk, n4, h4, l4, row4, _⟩ := run_make_row 33 5 iB _ [.int .u8 0] 1 Tryd.underlying33 hiB hzB0 hzB1 hzB2 rfl wr mr hwr size (by omega) (by omega)
      have hb0 : (List.replicate size ([.int .u8 0] : List Value)).flatten = (List.replicate size (0 : UInt8)).map byteV := flat_byte size
      rw [hb0] at row4
      have CV : (convert 33 9 (.slice (some ⟨wr.heap.size, 0, none⟩) size size)).run Tryd.prog w4 = .ok (.string ⟨(List.replicate size (0 : UInt8)).toArray⟩) w4 :=
        conv_back (row_wind (by rw [List.length_replicate]; exact row4)) w4 h4
      obtain ⟨sb', hsb⟩ : ∃ s : ByteArray, (⟨(List.replicate size (0 : UInt8)).toArray⟩ : ByteArray) = s := ⟨_, rfl⟩
      have hsbs : sb'.size = size := by rw [← hsb]; simp [ByteArray.size]
      rw [hsb] at CV
      have h5 := h4.alloc (.cells #[.string name, .string sb'] 29)
      have l5 := Mem.le_set m4 (.cells #[.string name, .string sb'] 29) (h4.fresh (Nat.le_refl _))
      obtain ⟨i0, hi, hz0, hz1, hz2⟩ := info_parts infoFile
      obtain ⟨v', w6, m6, hrun, n6, h6, row6, gr6⟩ := run_append_row (P := Tryd.prog) 30 30 29 i0 _ 2 32 Tryd.underlying30 hi hz0 hz1 hz2 rfl (by decide)
        h5 (.slice xa k xc) k (fl.flatMap fileCells) (by have h := (row.le (Mem.le_trans l4 l5)); rw [hfl] at h; exact h) _ 0 1 1 [.string name, .string sb'] rfl (Cells.whole (Mem.set_same _ _ _) rfl) (by simp [Value.oneCell']) (by decide) (by omega) (by omega)
      obtain ⟨va, vc, rfl, _⟩ := row6.lenV
      have lm6 : m.le m6 := fun b o hb => gr6.keep (l5 _ _ (l4 _ _ (lr _ _ hb))) (fun e => by have := own b e; rw [hb] at this; cases this)
      obtain ⟨fl', hfl'⟩ : ∃ l, fl ++ [(name, sb')] = l := ⟨_, rfl⟩
      have hlen' : fl'.length = k + 1 := by rw [← hfl', List.length_append, hfl]; rfl
      have row6' : Row m6 (.slice va (k + 1) vc) 29 2 fl'.length (fl'.flatMap fileCells) := by
        rw [hlen', ← hfl', List.flatMap_append]; exact row6
      have HZ' : Hid (∀ f ∈ fl', f.2.size ≤ 300000) := Lib.hid (fun f hf => by
        rw [← hfl'] at hf
        rcases List.mem_append.1 hf with hf | hf
        · rw [HZ.out f hf]; omega
        · rw [List.mem_singleton.1 hf]; show sb'.size ≤ 300000; omega)
      obtain ⟨iF, hiF, hzF0, hzF1, hzF2⟩ := info_parts infoFail
      obtain ⟨w7, m7, hmk7, n7, h7, l7, row7, _⟩ := run_make_row 44 54 iF _ [.int .i64 0, .int .i64 0, .int .i64 0] 24 Tryd.underlying44 hiF hzF0 hzF1 hzF2 rfl w6 m6 h6 fails (by omega) (by omega)
      obtain ⟨xl, hxl⟩ : ∃ l : List Fail3, List.replicate fails (0, 0, 0) = l := ⟨_, rfl⟩
      have hxlen : xl.length = fails := by rw [← hxl]; simp
      have hb7 : (List.replicate fails ([.int .i64 0, .int .i64 0, .int .i64 0] : List Value)).flatten = xl.flatMap failCells := by rw [← hxl]; exact flat_fail fails
      rw [hb7] at row7
      have NW := Lib.hid (new_any (.slice va (k + 1) vc) (.slice (some ⟨w6.heap.size, 0, none⟩) fails fails) fl' xl w7 m7 h7 (row_windK (row6'.le l7)) (by rw [hxlen]; exact row_windK row7) (by omega) (by omega) (fun f hf => Nat.le_trans (HZ'.out f hf) (by decide)))
      have ROW6 := Lib.hid (row6'.le l7)
      have H7 := Lib.hid h7
      have LM7 := Lib.hid (Mem.le_trans lm6 l7)
      have N7 := Lib.hid ((((nr.trans n4).alloc (.cells #[.string name, .string sb'] 29)).trans n6).trans n7)
      have HXL := Lib.hid hxlen
      have HB7 := Lib.hid hb7
      have HLEN := Lib.hid hlen'
      clear hiB hzB0 hzB1 hzB2 n4 h4 l4 row4 hb0 hsb h5 l5 hi hz0 hz1 hz2 n6 h6 row6 gr6 lm6 hfl' row6' hiF hzF0 hzF1 hzF2 n7 h7 l7 row7 hxl hxlen hb7 hlen' lr hwr nr row own HX hfl HZ
      go_wp2_with (at_builtin; refine wpList_b2 rfl .append Builtin.append_ (fun _ _ _ _ => rfl) _ _ _ _ rfl rfl rfl hrun ?_)
      refine NW.out.mono ?_
      rintro e w8 ⟨v, m8, rfl, l8, h8, n8, hv⟩
      obtain ⟨iF, hiF, hzF0, hzF1, hzF2⟩ := info_parts infoFail
      obtain ⟨w9, m9, hmk9, n9, h9, l9, row9, _⟩ := run_make_row 44 54 iF _ [.int .i64 0, .int .i64 0, .int .i64 0] 24 Tryd.underlying44 hiF hzF0 hzF1 hzF2 rfl w8 m8 h8 fails (by omega) (by omega)
      rw [HB7.out] at row9
      have NR9 := Lib.hid (newref_any (.slice va (k + 1) vc) (.slice (some ⟨w8.heap.size, 0, none⟩) fails fails) fl' xl w9 m9 h9 (row_windK (ROW6.out.le (Mem.le_trans l8 l9))) (by rw [HXL.out]; exact row_windK row9) (by have := HLEN.out; omega) (by have := HXL.out; omega) (fun f hf => Nat.le_trans (HZ'.out f hf) (by decide)))
      have LM9 := Lib.hid (Mem.le_trans LM7.out (Mem.le_trans l8 l9))
      have L9 := Lib.hid l9
      have N9 := Lib.hid ((N7.out.trans n8).trans n9)
      have HV := Lib.hid hv
      clear hiF hzF0 hzF1 hzF2 n9 h9 row9 l8 h8 n8 l9 hv NW H7 LM7 N7
      by_cases hE : newE fl' xl.length = 0
      · obtain ⟨sb, g, rfl, hr, _, hL, _⟩ := HV.out.1 hE
        have HRS := Lib.hid (hr.le L9.out)
        have HLL := Lib.hid hL
        have HE := Lib.hid hE
        clear hr hL hE HV
        go_wp2_with fail
        refine NR9.out.mono ?_
        rintro e w10 ⟨u, m10, rfl, l10, h10, n10, hu⟩
        obtain ⟨rb, r, rfl, rr, _, hF, _, _, hrn⟩ := hu.1 HE.out
        have FA := Lib.hid (files_any sb g w10 m10 h10 (HRS.out.le l10))
        have NMS := Lib.hid HRS.out.names
        have HENT := Lib.hid (ents_of (F := r.F) (L := g.L) (by rw [hF, HLL.out]) (fun e he => by
          intro h
          have h1 := HRS.out.nm e he
          rw [h, isNameB_eq] at h1
          revert h1; decide))
        have HLG : Hid (g.L.length ≤ 100) := Lib.hid HRS.out.llen
        have RR := Lib.hid rr
        have HRN := Lib.hid hrn
        have LM10 := Lib.hid (Mem.le_trans LM9.out l10)
        have N10 := Lib.hid (N9.out.trans n10)
        clear l10 h10 n10 hu rr hF hrn HRS NR9 LM9 N9
        go_wp2_with fail
        refine FA.out.mono ?_
        rintro e w11 ⟨x, m11, rfl, l11, h11, n11, hx⟩
        have RF := Lib.hid (reffiles_any rb r w11 m11 h11 (RR.out.le l11) (by rw [HRN.out]; exact Nat.zero_le _))
        have HXX := Lib.hid hx
        have LM11 := Lib.hid (Mem.le_trans LM10.out l11)
        have N11 := Lib.hid (N10.out.trans n11)
        clear l11 h11 n11 hx FA
        go_wp2_with fail
        refine RF.out.mono ?_
        rintro e w12 ⟨y, m12, rfl, l12, h12, n12, ol, hy, hperm, hsort⟩
        have hol := files_eq (L := g.L) (F := r.F) NMS.out (List.Perm.of_eq HENT.out.symm) hperm hsort
        subst hol
        have hfl2 : (filesOf g.L).length ≤ 1000000 := by unfold filesOf; rw [List.length_map, namesB_length]; have := HLG.out; omega
        have AL := Lib.hid (all_same x y (filesOf g.L) w12 m12 h12 (HXX.out.1.le l12) hy.1 hfl2)
        have LM12 := Lib.hid (Mem.le_trans LM11.out l12)
        have N12 := Lib.hid (N11.out.trans n12)
        clear l12 h12 n12 hy hperm hsort RF hfl2
        go_wp2_with fail
        refine AL.out.mono ?_
        rintro e w13 ⟨z, m13, rfl, l13, h13, n13, rfl⟩
        have LM13 := Lib.hid (Mem.le_trans LM12.out l13)
        have H13 := Lib.hid h13
        have N13 := Lib.hid (N12.out.trans n13)
        clear l13 h13 n13 AL
        go_wp2_with fail
        refine (AW.out _ _ LM13.out H13.out N13.out).mono ?_
        rintro e w9 ⟨v, m9, rfl, l9, h9, n9, rfl⟩
        have P9 := Lib.hid (Post.mk (R := fun v _ => v = .bool true) m9 l9 h9 n9 rfl)
        clear l9 h9 n9
        go_wp2_with fail
        go_ret
        exact P9.out
      · have hv' := HV.out.2 hE
        subst hv'
        have HE := Lib.hid hE
        clear HV
        go_wp2_with fail
        refine NR9.out.mono ?_
        rintro e w10 ⟨u, m10, rfl, l10, h10, n10, hu⟩
        have hu' := hu.2 HE.out
        subst hu'
        have LM10 := Lib.hid (Mem.le_trans LM9.out l10)
        have H10 := Lib.hid h10
        have N10 := Lib.hid (N9.out.trans n10)
        clear l10 h10 n10 hu NR9 LM9 N9
        generalize newE fl' xl.length = E at *
        have hbE : (E != 0) = true := by simpa using HE.out
        go_wp2_with fail
        refine (AW.out _ _ LM10.out H10.out N10.out).mono ?_
        rintro e w9 ⟨v, m9, rfl, l9, h9, n9, rfl⟩
        have P9 := Lib.hid (Post.mk (R := fun v _ => v = .bool true) m9 l9 h9 n9 rfl)
        clear l9 h9 n9
        go_wp2_with fail
        go_ret
        exact P9.out
end Go.Proofs.YtcdmdkgiabfbeaaDoor
