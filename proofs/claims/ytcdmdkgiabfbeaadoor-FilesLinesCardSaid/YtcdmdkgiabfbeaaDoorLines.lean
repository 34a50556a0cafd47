/-
  FilesLines: the walk of the law.
-/
import Derived.Test.YtcdmdkgiabfbeaaDoorLinesLaw
namespace Go.Proofs.YtcdmdkgiabfbeaaDoor
open Go.RowKit

theorem fNm_ok : isNameB ⟨#[102]⟩ = true := by rw [isNameB_eq]; rfl
theorem new_one (s : ByteArray) (hs : s.size ≤ 262144) : newE [(⟨#[102]⟩, s)] 0 = 0 := by
  have h1 : sizeE (newE1 [(⟨#[102]⟩, s)] 0) [(⟨#[102]⟩, s)] = 0 := by
    unfold sizeE
    rw [if_neg]
    · rfl
    · simp [bigB]; omega
  unfold newE
  rw [h1]
  unfold scanE
  rw [if_neg (by simp), if_pos]
  refine ⟨by simp, fun f hf => ?_⟩
  obtain rfl := List.mem_singleton.1 hf
  exact fNm_ok
theorem back_str (s : ByteArray) : (⟨s.data.toList.toArray⟩ : ByteArray) = s := by cases s; simp
theorem beq_str (s : ByteArray) : (s == s) = true := by rw [bq]; simp

set_option maxHeartbeats 16000000 in
set_option maxRecDepth 100000 in
theorem lines_any (va : Option Addr) (vc : Nat) (ss : List ByteArray) (ended : Bool) (w : World) (m : Mem) (hm : Has w m) (hG : GlobOk m)
    (hv : 0 < ss.length → ∃ g o, va = some ⟨g, o, none⟩ ∧ Cells m g o (ss.map Value.string)) :
    Calls Tryd.prog 3 #[.slice va ss.length vc, .bool ended] w (Post w m fun v _ => v = .bool true) := by
  have H := Lib.hid hm
  have HG := Lib.hid hG
  have HV := Lib.hid hv
  clear hm hG hv
  have AW : Hid (∀ w1 m1, m.le m1 → Has w1 m1 → Env w w1 → Calls Tryd.prog 6 #[] w1 (Post w m fun v _ => v = .bool true)) := Lib.hid (fun w1 m1 l1 h1 n1 => by
    refine (awake_any w1 m1 h1 (HG.out.le l1)).mono ?_
    rintro e w2 ⟨v, m2, rfl, l2, h2, n2, rfl⟩
    exact Post.mk m2 (Mem.le_trans l1 l2) h2 (n1.trans n2) rfl)
  by_cases hz : ss.length = 0
  · have hzb : ((ss.length : Int) == 0) = true := beq_iff_eq.2 (by omega)
    go_enter Tryd.func3, Tryd.ntmps3
    go_wp2_with fail
    refine (AW.out _ _ (Mem.le_refl _) H.out (Env.refl _)).mono ?_
    rintro e w2 ⟨v, m2, rfl, l2, h2, n2, rfl⟩
    have P2 := Lib.hid (Post.mk (R := fun v _ => v = .bool true) m2 l2 h2 n2 rfl)
    clear l2 h2 n2
    go_wp2_with fail
    go_ret
    exact P2.out
  · have hzb : ((ss.length : Int) == 0) = false := beq_eq_false_iff_ne.2 (by omega)
    by_cases h60 : 60 < (ss.length : Int)
    · go_enter Tryd.func3, Tryd.ntmps3
      go_wp2_with fail
      refine (AW.out _ _ (Mem.le_refl _) H.out (Env.refl _)).mono ?_
      rintro e w2 ⟨v, m2, rfl, l2, h2, n2, rfl⟩
      have P2 := Lib.hid (Post.mk (R := fun v _ => v = .bool true) m2 l2 h2 n2 rfl)
      clear l2 h2 n2
      go_wp2_with fail
      go_ret
      exact P2.out
    · obtain ⟨gb, go, rfl, hc⟩ := HV.out (by omega)
      have hcw := hc.at H.out
      have hadd : ∀ j, (⟨gb, go, none⟩ : Addr).add j = ⟨gb, go + j, none⟩ := fun j => by unfold Addr.add; split <;> simp_all
      have CW : Hid (∀ j (hj : j < ss.length), w.cell? ⟨gb, go + j, none⟩ = some (.string ss[j])) := Lib.hid (fun j hj => by
        rw [← hadd]; exact hcw j _ (by simp [hj]))
      have HC := Lib.hid hc
      clear hc hcw hadd HV
      go_enter Tryd.func3, Tryd.ntmps3
      go_wp2_with fail
      go_loop [5, 6] (fun t i => ∃ (k : Nat) (s : ByteArray), k ≤ ss.length ∧ i = .int .i64 k ∧ t = .string s ∧ s.size ≤ 61 * k ∧ Hid (s.data.toList = textOf (ss.map (·.data.toList)) ended k) ∧ Hid (∀ j (hj : j < ss.length), j < k → ss[j].size ≤ 60 ∧ ∀ x ∈ ss[j].data.toList, x ≠ 10)) (fun _ i => ss.length - (intOf i).toNat)
      case atStart => exact ⟨0, ⟨#[]⟩, Nat.zero_le _, rfl, rfl, Nat.zero_le _, rfl, fun j hj h => by omega⟩
      case round =>
        obtain ⟨k, s, hk, rfl, rfl, hsl, HS, HN⟩ := hrel
        by_cases hlt : k < ss.length
        · have e0 := CW.out k hlt
          by_cases hbig : 60 < (ss[k].size : Int)
          · go_wp2_with fail
            refine (AW.out _ _ (Mem.le_refl _) H.out (Env.refl _)).mono ?_
            rintro e w2 ⟨v, m2, rfl, l2, h2, n2, rfl⟩
            have P2 := Lib.hid (Post.mk (R := fun v _ => v = .bool true) m2 l2 h2 n2 rfl)
            clear l2 h2 n2
            go_wp2_with fail
            go_ret
            exact P2.out
          · have HSK : Hid (ss[k].data.toList.length = ss[k].size) := Lib.hid Array.length_toList
            obtain ⟨sk, hsk⟩ : ∃ sk, ss[k] = sk := ⟨_, rfl⟩
            rw [hsk] at e0 hbig HSK
            have HK := Lib.hid hsk
            clear hsk
            go_wp2_with fail
            go_loop [7] (fun j => ∃ q : Nat, q ≤ sk.size ∧ j = .int .i64 q ∧ Hid (∀ x ∈ sk.data.toList.take q, x ≠ 10)) (fun j => sk.size - (intOf j).toNat)
            case atStart => exact ⟨0, Nat.zero_le _, rfl, Lib.hid (by simp)⟩
            case round =>
              obtain ⟨q, hq, rfl, HQ⟩ := hrel
              by_cases hql : q < sk.size
              · cases hch : ((sk[q].toNat : Int) == 10) with
                | true =>
                  go_wp2_with fail
                  refine (AW.out _ _ (Mem.le_refl _) H.out (Env.refl _)).mono ?_
                  rintro e w2 ⟨v, m2, rfl, l2, h2, n2, rfl⟩
                  have P2 := Lib.hid (Post.mk (R := fun v _ => v = .bool true) m2 l2 h2 n2 rfl)
                  clear l2 h2 n2
                  go_wp2_with fail
                  go_ret
                  exact P2.out
                | false =>
                  have HCH := Lib.hid hch
                  go_wp2_with fail
                  go_round
                  case rel =>
                    refine ⟨q + 1, hql, rfl, Lib.hid fun x hx => ?_⟩
                    have hq' : q < sk.data.toList.length := by rw [HSK.out]; exact hql
                    rw [List.take_succ_eq_append_getElem hq'] at hx
                    rcases List.mem_append.1 hx with hx | hx
                    · exact HQ.out x hx
                    · rw [List.mem_singleton.1 hx]
                      intro e10
                      have h1 := HCH.out
                      have h2 : sk[q] = sk.data.toList[q] := rfl
                      rw [h2, e10] at h1
                      exact absurd h1 (by decide)
                  case measure => simp [intOf]; omega
              · have HALL : Hid (∀ x ∈ sk.data.toList, x ≠ 10) := Lib.hid (fun x hx => HQ.out x (by rw [List.take_of_length_le (by rw [HSK.out]; omega)]; exact hx))
                have hsz1 : s.size + sk.size ≤ 10000 := by omega
                have hsz2 : s.size + sk.size + 1 ≤ 10000 := by omega
                have HGD : Hid ((ss.map (·.data.toList)).getD k [] = sk.data.toList) := Lib.hid (by rw [List.getD_eq_getElem?_getD, List.getElem?_map, List.getElem?_eq_getElem hlt, HK.out]; rfl)
                have HNX : Hid (∀ j (hj : j < ss.length), j < k + 1 → ss[j].size ≤ 60 ∧ ∀ x ∈ ss[j].data.toList, x ≠ 10) := Lib.hid (fun j hj hjk => by
                  rcases Nat.lt_or_ge j k with h | h
                  · exact HN.out j hj h
                  · obtain rfl : j = k := by omega
                    rw [HK.out]
                    exact ⟨by omega, HALL.out⟩)
                by_cases hlast : (k : Int) + 1 < (ss.length : Int)
                · have HLAST := Lib.hid hlast
                  go_wp2_with fail
                  go_round
                  case rel =>
                    refine ⟨k + 1, _, hlt, rfl, rfl, ?_, Lib.hid ?_, HNX⟩
                    · simp only [ByteArray.size_append]; show s.size + sk.size + 1 ≤ _; omega
                    · have hl := HLAST.out
                      rw [textOf, ← HS.out]
                      unfold pieceOf
                      rw [HGD.out, if_pos (by simp; omega)]
                      simp
                  case measure => simp [intOf]; omega
                · have HLAST := Lib.hid hlast
                  cases ended with
                  | true =>
                    go_wp2_with fail
                    go_round
                    case rel =>
                      refine ⟨k + 1, _, hlt, rfl, rfl, ?_, Lib.hid ?_, HNX⟩
                      · simp only [ByteArray.size_append]; show s.size + sk.size + 1 ≤ _; omega
                      · rw [textOf, ← HS.out]
                        unfold pieceOf
                        rw [HGD.out, if_pos (by simp)]
                        simp
                    case measure => simp [intOf]; omega
                  | false =>
                    go_wp2_with fail
                    go_round
                    case rel =>
                      refine ⟨k + 1, _, hlt, rfl, rfl, ?_, Lib.hid ?_, HNX⟩
                      · simp only [ByteArray.size_append]; omega
                      · have hl := HLAST.out
                        rw [textOf, ← HS.out]
                        unfold pieceOf
                        rw [HGD.out, if_neg (by simp; omega)]
                        simp
                    case measure => simp [intOf]; omega
        · obtain rfl : k = ss.length := by omega
          obtain ⟨N, hN⟩ : ∃ N, ss.length = N + 1 := ⟨ss.length - 1, by omega⟩
          have HTX : Hid (s.data.toList = textOf (ss.map (·.data.toList)) ended ss.length) := HS
          have HCO : Hid (∃ c e fz, m gb = some (.cells c e fz)) := Lib.hid (by obtain ⟨c, e, fz, h1, _⟩ := HC.out; exact ⟨c, e, fz, h1⟩)
          obtain ⟨hcc, hce, hcf, hco⟩ := HCO.out
          have HCO := Lib.hid hco
          clear hco
          have hNlt : N < ss.length := by omega
          have eN := CW.out N hNlt
          have n1 : ((ss.length : Int) - 1) = (N : Int) := by omega
          cases ended with
          | true =>
            have HNE : Hid (∀ k (hk : k < ss.length), k < ss.length → (k + 1 < ss.length ∨ true = true) ∨ ss[k].data.toList ≠ []) := Lib.hid (fun _ _ _ => .inl (.inr rfl))
            have HLE : Hid ((textOf (ss.map (·.data.toList)) true ss.length).length = s.data.toList.length) := Lib.hid (by rw [HTX.out])
            have hss : s.size ≤ 262144 := by omega
            have h1 := H.out.alloc (.cells #[.string ⟨#[102]⟩, .string s] 29)
            have l1 := Mem.le_set m (.cells #[.string ⟨#[102]⟩, .string s] 29) (H.out.fresh (Nat.le_refl _))
            have NW := new_any (.slice (some ⟨w.heap.size, 0, none⟩) 1 1) (.slice none 0 0) [(⟨#[102]⟩, s)] [] _ _ h1 (.inr ⟨w.heap.size, 0, 1, rfl, Nat.le_refl _, Cells.whole (Mem.set_same _ _ _) rfl⟩) (.inl ⟨rfl, rfl⟩) (by simp) (by simp) (fun f hf => by obtain rfl := List.mem_singleton.1 hf; show s.size ≤ _; omega)
            have HNW := Lib.hid NW
            have L1 := Lib.hid l1
            clear h1 l1 NW
            go_wp2_with fail
            refine HNW.out.mono ?_
            rintro e w2 ⟨v, m2, rfl, l2, h2, n2, hv⟩
            obtain ⟨sb, g, rfl, ow, ha⟩ := (hv.own l2 (new_one s hss))
            have OW := Lib.hid (show Own m sb g m2 from ⟨Mem.le_trans L1.out ow.le, ow.rep, fun b hb => Mem.none_le L1.out (ow.new b hb)⟩)
            have H2 := Lib.hid h2
            have N2 := Lib.hid (((Env.refl w).alloc (.cells #[.string ⟨#[102]⟩, .string s] 29)).trans n2)
            have HA := Lib.hid ha
            clear l2 h2 n2 hv ow ha HNW L1
            go_wp2_with fail
            have hn0 : g.n ≤ 999999 := by
              have h : g.abs.n = 0 := by rw [HA.out]; rfl
              have h' : g.n = 0 := h
              omega
            refine (open_any sb ⟨#[102]⟩ 1 g w2 m2 H2.out OW.out.rep (OW.out.glob HG.out) (OW.out.zero HG.out) hn0).mono ?_
            rintro e w3 ⟨v, x, m3, rfl, h3, n3, hop⟩
            rw [HA.out, StF_open _ _ fNm_ok] at hop
            obtain ⟨g3, ow3, ha3, rfl, rfl⟩ := OW.out.step hop
            have OW3 := Lib.hid ow3
            have H3 := Lib.hid h3
            have N3 := Lib.hid (N2.out.trans n3)
            have HA3 := Lib.hid ha3
            clear h3 n3 hop ow3 ha3 hn0
            go_wp2_with fail
            go_loopw [13] (fun i wr => ∃ k : Nat, k ≤ ss.length ∧ i = .int .i64 k ∧ Hid (∃ mr gr, Own m sb gr mr ∧ Has wr mr ∧ Env w wr ∧ gr.abs = StF ⟨#[102]⟩ s (textOf (ss.map (·.data.toList)) true k).length (1 + k))) (fun i _ => ss.length - (intOf i).toNat)
            case atStart => exact ⟨0, Nat.zero_le _, rfl, Lib.hid ⟨m3, g3, OW3.out, H3.out, N3.out, HA3.out⟩⟩
            case round =>
              obtain ⟨k3, hk3, rfl, hX⟩ := hrel
              obtain ⟨mr, gr, owr, hwr, nr, har⟩ := hX.out
              have OWR := Lib.hid owr
              have HWR := Lib.hid hwr
              have NR := Lib.hid nr
              have HAR := Lib.hid har
              clear owr hwr nr har hX
              have hnr : gr.n ≤ 999999 := by
                have h : gr.abs.n = 1 + k3 := by rw [HAR.out]; rfl
                have h' : gr.n = 1 + k3 := h
                omega
              have LN := Lib.hid (line_any sb 1 100 gr wr mr HWR.out OWR.out.rep (OWR.out.glob HG.out) (OWR.out.zero HG.out) hnr)
              by_cases hlt3 : k3 < ss.length
              · have hlt4 : k3 < ss.length := by omega
                have hlt5 : k3 < (ss.map (·.data.toList)).length := by simpa using hlt4
                have hgk : (ss.map (·.data.toList))[k3] = ss[k3].data.toList := by simp
                obtain ⟨b60, bno⟩ := HN.out k3 hlt4 (by omega)
                have ST := StF_step ⟨#[102]⟩ s (ss.map (·.data.toList)) true (1 + k3) k3 (by rw [HTX.out]; simp) hlt5 (by rw [hgk]; exact Nat.le_trans (Nat.le_of_eq Array.length_toList) b60) (by rw [hgk]; exact bno) (by rw [hgk]; have hh := HNE.out k3 hlt4 hlt3; simp only [List.length_map]; exact hh)
                rw [hgk] at ST
                have HST := Lib.hid ST
                have e0 := CW.out k3 hlt4
                clear hgk ST b60 bno hlt5
                go_wp2_with fail
                refine LN.out.mono ?_
                rintro e w4 ⟨v, b, x, m4, rfl, h4, n4, hop⟩
                rw [HAR.out] at hop
                change OpR mr sb gr _ (A.withA _ 1 ([], false) (lineF (1 - 1 : Int).toNat 100)) _ m4 x at hop
                rw [HST.out] at hop
                obtain ⟨g4, ow4, ha4, rfl, hb, rfl⟩ := OWR.out.step hop
                have CV : ∀ n, (convert 33 9 v).run Tryd.prog (w4.drewN n) = .ok (.string ss[k3]) (w4.drewN n) := fun n => by
                  rw [conv_back (row_wind hb.1) (w4.drewN n) (h4.drewN n), back_str]
                obtain ⟨va, vc', hvv, _⟩ := hb.1.lenV
                have hvn : v = .slice va ss[k3].size vc' := hvv.trans (congrArg (fun n => Value.slice va n vc') Array.length_toList)
                subst hvn
                clear hvv
                have e1 : w4.cell? ⟨gb, go + k3, none⟩ = some (.string ss[k3]) := by
                  rw [h4.cell (o := go + k3) (ow4.le _ _ HCO.out)]
                  rw [← H.out.cell (o := go + k3) HCO.out]; exact e0
                have hbs := beq_str ss[k3]
                have OW4 := Lib.hid ow4
                have H4 := Lib.hid h4
                have N4 := Lib.hid (NR.out.trans n4)
                have HA4 := Lib.hid ha4
                obtain ⟨sk, hsk⟩ : ∃ sk, ss[k3] = sk := ⟨_, rfl⟩
                simp only [hsk] at CV e0 e1 hbs ⊢
                clear h4 n4 hop ow4 ha4 hb
                go_wp2_with fail
                go_quiet (fail)
                go_wp2_with fail
                go_roundw
                case rel => exact ⟨k3 + 1, hlt3, rfl, Lib.hid ⟨m4, g4, OW4.out, H4.out.drewN nq, N4.out.drewN nq, HA4.out⟩⟩
                case measure => simp [intOf]; omega
              · obtain rfl : k3 = ss.length := by omega
                have ST := StF_end ⟨#[102]⟩ s (textOf (ss.map (·.data.toList)) true ss.length).length (1 + ss.length) (Nat.le_of_eq (by rw [HLE.out]))
                have HST := Lib.hid ST
                clear ST
                go_wp2_with fail
                refine LN.out.mono ?_
                rintro e w4 ⟨v, b, x, m4, rfl, h4, n4, hop⟩
                rw [HAR.out] at hop
                change OpR mr sb gr _ (A.withA _ 1 ([], false) (lineF (1 - 1 : Int).toNat 100)) _ m4 x at hop
                rw [HST.out] at hop
                obtain ⟨g4, ow4, ha4, rfl, hb, rfl⟩ := OWR.out.step hop
                obtain ⟨va, vc', rfl, _⟩ := hb.1.lenV
                have OW4 := Lib.hid ow4
                have H4 := Lib.hid h4
                have N4 := Lib.hid (NR.out.trans n4)
                clear h4 n4 hop ow4 ha4 hb
                go_wp2_with fail
                refine (AW.out _ _ OW4.out.le H4.out N4.out).mono ?_
                rintro e w5 ⟨v, m5, rfl, l5, h5, n5, rfl⟩
                have P5 := Lib.hid (Post.mk (R := fun v _ => v = .bool true) m5 l5 h5 n5 rfl)
                clear l5 h5 n5
                go_wp2_with fail
                go_ret
                exact P5.out
          | false =>
            by_cases hemp : ss[N] = ⟨#[]⟩
            · have hle : ss[N].toList = [] := by rw [ByteArray.toList_eq, hemp]
              have hl3 : ss[N].toList.isEmpty = true := by rw [hle]; rfl
              have HNE : Hid (∀ k (hk : k < ss.length), k < N → (k + 1 < ss.length ∨ false = true) ∨ ss[k].data.toList ≠ []) := Lib.hid (fun k hk hkn => .inl (.inl (by omega)))
              have HLE : Hid ((textOf (ss.map (·.data.toList)) false N).length = s.data.toList.length) := Lib.hid (by
                rw [HTX.out, hN, textOf]
                unfold pieceOf
                rw [List.getD_eq_getElem?_getD, List.getElem?_map, List.getElem?_eq_getElem hNlt, hemp, if_neg (by simp; omega)]
                simp)
              obtain ⟨sN, hsN⟩ : ∃ sN, ss[N] = sN := ⟨_, rfl⟩
              rw [hsN] at hle hl3 eN
              clear hemp hsN
              have hss : s.size ≤ 262144 := by omega
              have h1 := H.out.alloc (.cells #[.string ⟨#[102]⟩, .string s] 29)
              have l1 := Mem.le_set m (.cells #[.string ⟨#[102]⟩, .string s] 29) (H.out.fresh (Nat.le_refl _))
              have NW := new_any (.slice (some ⟨w.heap.size, 0, none⟩) 1 1) (.slice none 0 0) [(⟨#[102]⟩, s)] [] _ _ h1 (.inr ⟨w.heap.size, 0, 1, rfl, Nat.le_refl _, Cells.whole (Mem.set_same _ _ _) rfl⟩) (.inl ⟨rfl, rfl⟩) (by simp) (by simp) (fun f hf => by obtain rfl := List.mem_singleton.1 hf; show s.size ≤ _; omega)
              have HNW := Lib.hid NW
              have L1 := Lib.hid l1
              clear h1 l1 NW
              go_wp2_with fail
              refine HNW.out.mono ?_
              rintro e w2 ⟨v, m2, rfl, l2, h2, n2, hv⟩
              obtain ⟨sb, g, rfl, ow, ha⟩ := (hv.own l2 (new_one s hss))
              have OW := Lib.hid (show Own m sb g m2 from ⟨Mem.le_trans L1.out ow.le, ow.rep, fun b hb => Mem.none_le L1.out (ow.new b hb)⟩)
              have H2 := Lib.hid h2
              have N2 := Lib.hid (((Env.refl w).alloc (.cells #[.string ⟨#[102]⟩, .string s] 29)).trans n2)
              have HA := Lib.hid ha
              clear l2 h2 n2 hv ow ha HNW L1
              go_wp2_with fail
              have hn0 : g.n ≤ 999999 := by
                have h : g.abs.n = 0 := by rw [HA.out]; rfl
                have h' : g.n = 0 := h
                omega
              refine (open_any sb ⟨#[102]⟩ 1 g w2 m2 H2.out OW.out.rep (OW.out.glob HG.out) (OW.out.zero HG.out) hn0).mono ?_
              rintro e w3 ⟨v, x, m3, rfl, h3, n3, hop⟩
              rw [HA.out, StF_open _ _ fNm_ok] at hop
              obtain ⟨g3, ow3, ha3, rfl, rfl⟩ := OW.out.step hop
              have OW3 := Lib.hid ow3
              have H3 := Lib.hid h3
              have N3 := Lib.hid (N2.out.trans n3)
              have HA3 := Lib.hid ha3
              clear h3 n3 hop ow3 ha3 hn0
              go_wp2_with fail
              go_loopw [13] (fun i wr => ∃ k : Nat, k ≤ N ∧ i = .int .i64 k ∧ Hid (∃ mr gr, Own m sb gr mr ∧ Has wr mr ∧ Env w wr ∧ gr.abs = StF ⟨#[102]⟩ s (textOf (ss.map (·.data.toList)) false k).length (1 + k))) (fun i _ => N - (intOf i).toNat)
              case atStart => exact ⟨0, Nat.zero_le _, rfl, Lib.hid ⟨m3, g3, OW3.out, H3.out, N3.out, HA3.out⟩⟩
              case round =>
                obtain ⟨k3, hk3, rfl, hX⟩ := hrel
                obtain ⟨mr, gr, owr, hwr, nr, har⟩ := hX.out
                have OWR := Lib.hid owr
                have HWR := Lib.hid hwr
                have NR := Lib.hid nr
                have HAR := Lib.hid har
                clear owr hwr nr har hX
                have hnr : gr.n ≤ 999999 := by
                  have h : gr.abs.n = 1 + k3 := by rw [HAR.out]; rfl
                  have h' : gr.n = 1 + k3 := h
                  omega
                have LN := Lib.hid (line_any sb 1 100 gr wr mr HWR.out OWR.out.rep (OWR.out.glob HG.out) (OWR.out.zero HG.out) hnr)
                by_cases hlt3 : k3 < N
                · have hlt4 : k3 < ss.length := by omega
                  have hlt5 : k3 < (ss.map (·.data.toList)).length := by simpa using hlt4
                  have hgk : (ss.map (·.data.toList))[k3] = ss[k3].data.toList := by simp
                  obtain ⟨b60, bno⟩ := HN.out k3 hlt4 (by omega)
                  have ST := StF_step ⟨#[102]⟩ s (ss.map (·.data.toList)) false (1 + k3) k3 (by rw [HTX.out]; simp) hlt5 (by rw [hgk]; exact Nat.le_trans (Nat.le_of_eq Array.length_toList) b60) (by rw [hgk]; exact bno) (by rw [hgk]; have hh := HNE.out k3 hlt4 hlt3; simp only [List.length_map]; exact hh)
                  rw [hgk] at ST
                  have HST := Lib.hid ST
                  have e0 := CW.out k3 hlt4
                  clear hgk ST b60 bno hlt5
                  go_wp2_with fail
                  refine LN.out.mono ?_
                  rintro e w4 ⟨v, b, x, m4, rfl, h4, n4, hop⟩
                  rw [HAR.out] at hop
                  change OpR mr sb gr _ (A.withA _ 1 ([], false) (lineF (1 - 1 : Int).toNat 100)) _ m4 x at hop
                  rw [HST.out] at hop
                  obtain ⟨g4, ow4, ha4, rfl, hb, rfl⟩ := OWR.out.step hop
                  have CV : ∀ n, (convert 33 9 v).run Tryd.prog (w4.drewN n) = .ok (.string ss[k3]) (w4.drewN n) := fun n => by
                    rw [conv_back (row_wind hb.1) (w4.drewN n) (h4.drewN n), back_str]
                  obtain ⟨va, vc', hvv, _⟩ := hb.1.lenV
                  have hvn : v = .slice va ss[k3].size vc' := hvv.trans (congrArg (fun n => Value.slice va n vc') Array.length_toList)
                  subst hvn
                  clear hvv
                  have e1 : w4.cell? ⟨gb, go + k3, none⟩ = some (.string ss[k3]) := by
                    rw [h4.cell (o := go + k3) (ow4.le _ _ HCO.out)]
                    rw [← H.out.cell (o := go + k3) HCO.out]; exact e0
                  have hbs := beq_str ss[k3]
                  have OW4 := Lib.hid ow4
                  have H4 := Lib.hid h4
                  have N4 := Lib.hid (NR.out.trans n4)
                  have HA4 := Lib.hid ha4
                  obtain ⟨sk, hsk⟩ : ∃ sk, ss[k3] = sk := ⟨_, rfl⟩
                  simp only [hsk] at CV e0 e1 hbs ⊢
                  clear h4 n4 hop ow4 ha4 hb
                  go_wp2_with fail
                  go_quiet (fail)
                  go_wp2_with fail
                  go_roundw
                  case rel => exact ⟨k3 + 1, hlt3, rfl, Lib.hid ⟨m4, g4, OW4.out, H4.out.drewN nq, N4.out.drewN nq, HA4.out⟩⟩
                  case measure => simp [intOf]; omega
                · obtain rfl : N = k3 := by omega
                  have ST := StF_end ⟨#[102]⟩ s (textOf (ss.map (·.data.toList)) false N).length (1 + N) (Nat.le_of_eq (by rw [HLE.out]))
                  have HST := Lib.hid ST
                  clear ST
                  go_wp2_with fail
                  refine LN.out.mono ?_
                  rintro e w4 ⟨v, b, x, m4, rfl, h4, n4, hop⟩
                  rw [HAR.out] at hop
                  change OpR mr sb gr _ (A.withA _ 1 ([], false) (lineF (1 - 1 : Int).toNat 100)) _ m4 x at hop
                  rw [HST.out] at hop
                  obtain ⟨g4, ow4, ha4, rfl, hb, rfl⟩ := OWR.out.step hop
                  obtain ⟨va, vc', rfl, _⟩ := hb.1.lenV
                  have OW4 := Lib.hid ow4
                  have H4 := Lib.hid h4
                  have N4 := Lib.hid (NR.out.trans n4)
                  clear h4 n4 hop ow4 ha4 hb
                  go_wp2_with fail
                  refine (AW.out _ _ OW4.out.le H4.out N4.out).mono ?_
                  rintro e w5 ⟨v, m5, rfl, l5, h5, n5, rfl⟩
                  have P5 := Lib.hid (Post.mk (R := fun v _ => v = .bool true) m5 l5 h5 n5 rfl)
                  clear l5 h5 n5
                  go_wp2_with fail
                  go_ret
                  exact P5.out
            · have hle : ¬ ss[N].toList = [] := by
                rw [ByteArray.toList_eq]
                intro hn
                exact hemp (by rw [← back_str ss[N], hn])
              have hl3 : ss[N].toList.isEmpty = false := by rw [List.isEmpty_eq_false_iff]; exact hle
              have HNE : Hid (∀ k (hk : k < ss.length), k < ss.length → (k + 1 < ss.length ∨ false = true) ∨ ss[k].data.toList ≠ []) := Lib.hid (fun k hk _ => by
                rcases Nat.lt_or_ge (k + 1) ss.length with h | h
                · exact .inl (.inl h)
                · obtain rfl : k = N := by omega
                  refine .inr (fun hn => hemp ?_)
                  rw [← back_str ss[k], hn])
              have HLE : Hid ((textOf (ss.map (·.data.toList)) false ss.length).length = s.data.toList.length) := Lib.hid (by rw [HTX.out])
              obtain ⟨sN, hsN⟩ : ∃ sN, ss[N] = sN := ⟨_, rfl⟩
              rw [hsN] at hle hl3 eN
              clear hemp hsN
              have hss : s.size ≤ 262144 := by omega
              have h1 := H.out.alloc (.cells #[.string ⟨#[102]⟩, .string s] 29)
              have l1 := Mem.le_set m (.cells #[.string ⟨#[102]⟩, .string s] 29) (H.out.fresh (Nat.le_refl _))
              have NW := new_any (.slice (some ⟨w.heap.size, 0, none⟩) 1 1) (.slice none 0 0) [(⟨#[102]⟩, s)] [] _ _ h1 (.inr ⟨w.heap.size, 0, 1, rfl, Nat.le_refl _, Cells.whole (Mem.set_same _ _ _) rfl⟩) (.inl ⟨rfl, rfl⟩) (by simp) (by simp) (fun f hf => by obtain rfl := List.mem_singleton.1 hf; show s.size ≤ _; omega)
              have HNW := Lib.hid NW
              have L1 := Lib.hid l1
              clear h1 l1 NW
              go_wp2_with fail
              refine HNW.out.mono ?_
              rintro e w2 ⟨v, m2, rfl, l2, h2, n2, hv⟩
              obtain ⟨sb, g, rfl, ow, ha⟩ := (hv.own l2 (new_one s hss))
              have OW := Lib.hid (show Own m sb g m2 from ⟨Mem.le_trans L1.out ow.le, ow.rep, fun b hb => Mem.none_le L1.out (ow.new b hb)⟩)
              have H2 := Lib.hid h2
              have N2 := Lib.hid (((Env.refl w).alloc (.cells #[.string ⟨#[102]⟩, .string s] 29)).trans n2)
              have HA := Lib.hid ha
              clear l2 h2 n2 hv ow ha HNW L1
              go_wp2_with fail
              have hn0 : g.n ≤ 999999 := by
                have h : g.abs.n = 0 := by rw [HA.out]; rfl
                have h' : g.n = 0 := h
                omega
              refine (open_any sb ⟨#[102]⟩ 1 g w2 m2 H2.out OW.out.rep (OW.out.glob HG.out) (OW.out.zero HG.out) hn0).mono ?_
              rintro e w3 ⟨v, x, m3, rfl, h3, n3, hop⟩
              rw [HA.out, StF_open _ _ fNm_ok] at hop
              obtain ⟨g3, ow3, ha3, rfl, rfl⟩ := OW.out.step hop
              have OW3 := Lib.hid ow3
              have H3 := Lib.hid h3
              have N3 := Lib.hid (N2.out.trans n3)
              have HA3 := Lib.hid ha3
              clear h3 n3 hop ow3 ha3 hn0
              go_wp2_with fail
              go_loopw [13] (fun i wr => ∃ k : Nat, k ≤ ss.length ∧ i = .int .i64 k ∧ Hid (∃ mr gr, Own m sb gr mr ∧ Has wr mr ∧ Env w wr ∧ gr.abs = StF ⟨#[102]⟩ s (textOf (ss.map (·.data.toList)) false k).length (1 + k))) (fun i _ => ss.length - (intOf i).toNat)
              case atStart => exact ⟨0, Nat.zero_le _, rfl, Lib.hid ⟨m3, g3, OW3.out, H3.out, N3.out, HA3.out⟩⟩
              case round =>
                obtain ⟨k3, hk3, rfl, hX⟩ := hrel
                obtain ⟨mr, gr, owr, hwr, nr, har⟩ := hX.out
                have OWR := Lib.hid owr
                have HWR := Lib.hid hwr
                have NR := Lib.hid nr
                have HAR := Lib.hid har
                clear owr hwr nr har hX
                have hnr : gr.n ≤ 999999 := by
                  have h : gr.abs.n = 1 + k3 := by rw [HAR.out]; rfl
                  have h' : gr.n = 1 + k3 := h
                  omega
                have LN := Lib.hid (line_any sb 1 100 gr wr mr HWR.out OWR.out.rep (OWR.out.glob HG.out) (OWR.out.zero HG.out) hnr)
                by_cases hlt3 : k3 < ss.length
                · have hlt4 : k3 < ss.length := by omega
                  have hlt5 : k3 < (ss.map (·.data.toList)).length := by simpa using hlt4
                  have hgk : (ss.map (·.data.toList))[k3] = ss[k3].data.toList := by simp
                  obtain ⟨b60, bno⟩ := HN.out k3 hlt4 (by omega)
                  have ST := StF_step ⟨#[102]⟩ s (ss.map (·.data.toList)) false (1 + k3) k3 (by rw [HTX.out]; simp) hlt5 (by rw [hgk]; exact Nat.le_trans (Nat.le_of_eq Array.length_toList) b60) (by rw [hgk]; exact bno) (by rw [hgk]; have hh := HNE.out k3 hlt4 hlt3; simp only [List.length_map]; exact hh)
                  rw [hgk] at ST
                  have HST := Lib.hid ST
                  have e0 := CW.out k3 hlt4
                  clear hgk ST b60 bno hlt5
                  go_wp2_with fail
                  refine LN.out.mono ?_
                  rintro e w4 ⟨v, b, x, m4, rfl, h4, n4, hop⟩
                  rw [HAR.out] at hop
                  change OpR mr sb gr _ (A.withA _ 1 ([], false) (lineF (1 - 1 : Int).toNat 100)) _ m4 x at hop
                  rw [HST.out] at hop
                  obtain ⟨g4, ow4, ha4, rfl, hb, rfl⟩ := OWR.out.step hop
                  have CV : ∀ n, (convert 33 9 v).run Tryd.prog (w4.drewN n) = .ok (.string ss[k3]) (w4.drewN n) := fun n => by
                    rw [conv_back (row_wind hb.1) (w4.drewN n) (h4.drewN n), back_str]
                  obtain ⟨va, vc', hvv, _⟩ := hb.1.lenV
                  have hvn : v = .slice va ss[k3].size vc' := hvv.trans (congrArg (fun n => Value.slice va n vc') Array.length_toList)
                  subst hvn
                  clear hvv
                  have e1 : w4.cell? ⟨gb, go + k3, none⟩ = some (.string ss[k3]) := by
                    rw [h4.cell (o := go + k3) (ow4.le _ _ HCO.out)]
                    rw [← H.out.cell (o := go + k3) HCO.out]; exact e0
                  have hbs := beq_str ss[k3]
                  have OW4 := Lib.hid ow4
                  have H4 := Lib.hid h4
                  have N4 := Lib.hid (NR.out.trans n4)
                  have HA4 := Lib.hid ha4
                  obtain ⟨sk, hsk⟩ : ∃ sk, ss[k3] = sk := ⟨_, rfl⟩
                  simp only [hsk] at CV e0 e1 hbs ⊢
                  clear h4 n4 hop ow4 ha4 hb
                  go_wp2_with fail
                  go_quiet (fail)
                  go_wp2_with fail
                  go_roundw
                  case rel => exact ⟨k3 + 1, hlt3, rfl, Lib.hid ⟨m4, g4, OW4.out, H4.out.drewN nq, N4.out.drewN nq, HA4.out⟩⟩
                  case measure => simp [intOf]; omega
                · obtain rfl : k3 = ss.length := by omega
                  have ST := StF_end ⟨#[102]⟩ s (textOf (ss.map (·.data.toList)) false ss.length).length (1 + ss.length) (Nat.le_of_eq (by rw [HLE.out]))
                  have HST := Lib.hid ST
                  clear ST
                  go_wp2_with fail
                  refine LN.out.mono ?_
                  rintro e w4 ⟨v, b, x, m4, rfl, h4, n4, hop⟩
                  rw [HAR.out] at hop
                  change OpR mr sb gr _ (A.withA _ 1 ([], false) (lineF (1 - 1 : Int).toNat 100)) _ m4 x at hop
                  rw [HST.out] at hop
                  obtain ⟨g4, ow4, ha4, rfl, hb, rfl⟩ := OWR.out.step hop
                  obtain ⟨va, vc', rfl, _⟩ := hb.1.lenV
                  have OW4 := Lib.hid ow4
                  have H4 := Lib.hid h4
                  have N4 := Lib.hid (NR.out.trans n4)
                  clear h4 n4 hop ow4 ha4 hb
                  go_wp2_with fail
                  refine (AW.out _ _ OW4.out.le H4.out N4.out).mono ?_
                  rintro e w5 ⟨v, m5, rfl, l5, h5, n5, rfl⟩
                  have P5 := Lib.hid (Post.mk (R := fun v _ => v = .bool true) m5 l5 h5 n5 rfl)
                  clear l5 h5 n5
                  go_wp2_with fail
                  go_ret
                  exact P5.out
end Go.Proofs.YtcdmdkgiabfbeaaDoor
