/-
  A script of steps in memory; much. (printed by steps_gen.py)
-/
import Derived.Test.YtcdmdkgiabfbeaaGreatDoorK18
import Derived.Test.YtcdmdkgiabfbeaaGreatDoorK14
import Derived.Test.YtcdmdkgiabfbeaaGreatDoorK17
import Derived.Test.YtcdmdkgiabfbeaaGreatDoorK15
namespace Go.Proofs.YtcdmdkgiabfbeaaGreatDoor
open Go.RowKit

structure Stp where
  kind : Int
  name : ByteArray
  to : ByteArray
  id : Int
  n : Int
  bv : Value
  b : List UInt8

def stpCells (s : Stp) : List Value := [.int .i64 s.kind, .string s.name, .string s.to, .int .i64 s.id, .int .i64 s.n, s.bv]
theorem stpCells_get : ∀ (l : List Stp) (k : Nat) (h : k < l.length) (j : Nat), j < 6 → (l.flatMap stpCells)[k * 6 + j]? = (stpCells l[k])[j]?
  | [], k, h, _, _ => absurd h (Nat.not_lt_zero k)
  | s :: l, 0, _, j, hj => by
    simp only [List.flatMap_cons, Nat.zero_mul, Nat.zero_add]
    rw [List.getElem?_append_left (by simpa [stpCells] using hj)]; rfl
  | s :: l, k + 1, h, j, hj => by
    have ih := stpCells_get l k (by simpa using h) j hj
    simp only [List.flatMap_cons]
    rw [List.getElem?_append_right (by simp [stpCells]; omega)]
    rw [show (k + 1) * 6 + j - (stpCells s).length = k * 6 + j from by simp [stpCells]; omega]
    exact ih

/-- A script, somewhere in a block. -/
structure StepsK (m : Mem) (v : Value) (sl : List Stp) : Prop where
  win : WindK m v sl.length (sl.flatMap stpCells)
  len : sl.length ≤ 140737488355328
  wind : ∀ s ∈ sl, WindZ m s.bv s.b
  size : ∀ s ∈ sl, s.name.size ≤ 140737488355328 ∧ s.to.size ≤ 140737488355328 ∧ s.b.length ≤ 140737488355328

theorem StepsK.le {m m' : Mem} {v : Value} {sl : List Stp} (h : StepsK m v sl) (l : m.le m') : StepsK m' v sl := ⟨h.win.le l, h.len, fun s hs => (h.wind s hs).le l, h.size⟩

/-- A step's cells. -/
theorem StepsK.at {m : Mem} {g o : Nat} {sl : List Stp} (h : Cells m g o (sl.flatMap stpCells)) {w : World} (hm : Has w m) {k : Nat} (hk : k < sl.length) :
    w.cell? ⟨g, o + k * 6, none⟩ = some (.int .i64 sl[k].kind) ∧ w.cell? ⟨g, o + k * 6 + 1, none⟩ = some (.string sl[k].name) ∧ w.cell? ⟨g, o + k * 6 + 2, none⟩ = some (.string sl[k].to) ∧
      w.cell? ⟨g, o + k * 6 + 3, none⟩ = some (.int .i64 sl[k].id) ∧ w.cell? ⟨g, o + k * 6 + 4, none⟩ = some (.int .i64 sl[k].n) ∧ w.cell? ⟨g, o + k * 6 + 5, none⟩ = some sl[k].bv := by
  have hadd : ∀ j, (⟨g, o, none⟩ : Addr).add j = ⟨g, o + j, none⟩ := fun j => by unfold Addr.add; split <;> simp_all
  have hcw := h.at hm
  have key : ∀ j v, j < 6 → (stpCells sl[k])[j]? = some v → w.cell? ⟨g, o + k * 6 + j, none⟩ = some v := fun j v hj hv => by
    have := hcw (k * 6 + j) v (by rw [stpCells_get _ _ hk _ hj]; exact hv)
    rw [hadd, ← Nat.add_assoc] at this
    exact this
  exact ⟨key 0 _ (by decide) rfl, key 1 _ (by decide) rfl, key 2 _ (by decide) rfl, key 3 _ (by decide) rfl, key 4 _ (by decide) rfl, key 5 _ (by decide) rfl⟩

def stpN (s : Stp) : Nat := s.b.length + s.name.size + s.to.size
def fileN (f : File2) : Nat := f.1.size + f.2.size

theorem wrap_small {x : Int} (h0 : 0 ≤ x) (h1 : x ≤ 2251799813685248) : IntKind.i64.wrap x = x := by
  simp [IntKind.wrap, IntKind.signed, IntKind.bits]; omega

def MuchR (fl : List File2) (nx : Nat) (sl : List Stp) (v : Value) (_ : Mem) : Prop :=
  ∃ t : Bool, v = .bool t ∧ (t = false → sl.length ≤ 200 ∧ fl.length ≤ 6000 ∧ nx ≤ 6000 ∧ (∀ f ∈ fl, fileN f ≤ 6000) ∧ ∀ s ∈ sl, stpN s ≤ 6000)

set_option maxHeartbeats 4000000 in
set_option maxRecDepth 100000 in
theorem much_any (fv : Value) (fl : List File2) (xa : Option Addr) (nx xc : Nat) (lv : Value) (sl : List Stp) (w : World) (m : Mem) (hm : Has w m) (hf : Files2 m fv fl) (hfl : fl.length ≤ 140737488355328) (hnx : nx ≤ 140737488355328)
    (hfs : ∀ f ∈ fl, f.1.size ≤ 140737488355328 ∧ f.2.size ≤ 140737488355328) (hs : StepsK m lv sl) :
    Calls Tryz.prog 6 #[fv, .slice xa nx xc, lv] w (Post w m (MuchR fl nx sl)) := by
  obtain ⟨fa, fc, rfl⟩ := hf.shape
  obtain ⟨la, lc, rfl⟩ := hs.win.shape
  have hsl := hs.len
  have wk0 : IntKind.i64.wrap ((fl.length : Int) + (nx : Int)) = (fl.length : Int) + nx := wrap_small (by omega) (by omega)
  have wk1 : IntKind.i64.wrap ((fl.length : Int) + (nx : Int) + (sl.length : Int)) = (fl.length : Int) + nx + sl.length := wrap_small (by omega) (by omega)
  have H := Lib.hid hm
  have HF := Lib.hid hf
  have HFS := Lib.hid hfs
  have HS := Lib.hid hs
  clear hm hf hs hfs
  go_enter Tryz.func6, Tryz.ntmps6
  go_wp2_with fail
  go_loopw [7, 8] (fun n i wr => ∃ (N k : Nat), k ≤ fl.length ∧ n = .int .i64 N ∧ i = .int .i64 k ∧ fl.length + nx + sl.length ≤ N ∧ N ≤ 1125899906842624 ∧ Hid (Has wr m) ∧ Hid (Env w wr) ∧ Hid (N ≤ 6000 → ∀ f ∈ fl.take k, fileN f ≤ 6000)) (fun _ i _ => fl.length - (intOf i).toNat)
  case atStart => exact ⟨fl.length + nx + sl.length, 0, Nat.zero_le _, by go_num, rfl, Nat.le_refl _, by omega, H, Lib.hid (Env.refl w), Lib.hid (fun _ f hf => by simp at hf)⟩
  case round =>
    obtain ⟨N, k, hk, rfl, rfl, hN, hNb, HW, HE, HA⟩ := hrel
    by_cases h6 : (N : Int) ≤ 6000
    · by_cases hlt : k < fl.length
      · obtain ⟨fb, fo, cap, hfa, hc⟩ := WindK.cells HF.out (by omega)
        simp only [Value.slice.injEq] at hfa
        obtain ⟨rfl, _, rfl⟩ := hfa
        obtain ⟨g0, g1'⟩ := fileCells_get fl k hlt
        have hcw := hc.at HW.out
        have e0 := hcw _ _ g0
        have e1 := hcw _ _ g1'
        have hadd : ∀ j, (⟨fb, fo, none⟩ : Addr).add j = ⟨fb, fo + j, none⟩ := fun j => by unfold Addr.add; split <;> simp_all
        rw [hadd] at e0 e1
        rw [← Nat.add_assoc] at e1
        have flt : fb < wr.heap.size := by
          obtain ⟨c, e, fz, h1, _⟩ := hc
          exact HW.out.lt h1
        obtain ⟨z0, z1⟩ := HFS.out _ (List.getElem_mem hlt)
        obtain ⟨⟨nm, by'⟩, hfk⟩ : ∃ f, f = fl[k] := ⟨_, rfl⟩
        rw [← hfk] at e0 e1 z0 z1
        simp only at z0 z1
        have HFK := Lib.hid hfk
        have wk2 : IntKind.i64.wrap ((N : Int) + (nm.size : Int)) = (N : Int) + nm.size := wrap_small (by omega) (by omega)
        have wk3 : IntKind.i64.wrap ((N : Int) + (nm.size : Int) + (by'.size : Int)) = (N : Int) + nm.size + by'.size := wrap_small (by omega) (by omega)
        clear hfk g0 g1' hcw hc hadd
        go_wp2_with fail
        go_quiet (fail)
        go_wp2_with fail
        go_roundw
        case rel =>
          refine ⟨N + nm.size + by'.size, k + 1, hlt, by go_num, by go_num, by omega, by omega, Lib.hid (HW.out.drewN nq), Lib.hid (HE.out.drewN nq), Lib.hid (fun h => mem_take_succ hlt (HA.out (by omega)) ?_)⟩
          rw [← HFK.out]
          show nm.size + by'.size ≤ 6000
          omega
        case measure => simp [intOf]; omega
      · have HB : Hid (N ≤ 6000 → ∀ f ∈ fl, fileN f ≤ 6000) := Lib.hid (fun h => by have := HA.out h; rwa [List.take_of_length_le (by omega)] at this)
        clear HA
        go_wp2_with fail
        go_loopw [7, 9] (fun n i wr => ∃ (N k : Nat), k ≤ sl.length ∧ n = .int .i64 N ∧ i = .int .i64 k ∧ fl.length + nx + sl.length ≤ N ∧ N ≤ 1125899906842624 ∧ Hid (Has wr m) ∧ Hid (Env w wr) ∧ Hid (N ≤ 6000 → (∀ f ∈ fl, fileN f ≤ 6000) ∧ ∀ s ∈ sl.take k, stpN s ≤ 6000)) (fun _ i _ => sl.length - (intOf i).toNat)
        case atStart => exact ⟨N, 0, Nat.zero_le _, rfl, rfl, hN, hNb, HW, HE, Lib.hid (fun h => ⟨HB.out h, fun s hs => by simp at hs⟩)⟩
        case round =>
          clear HB HW HE hN hNb
          obtain ⟨N, k, hk, rfl, rfl, hN, hNb, HW, HE, HA⟩ := hrel
          by_cases h6 : (N : Int) ≤ 6000
          · by_cases hlt : k < sl.length
            · obtain ⟨gb, go, cap, hla, hc⟩ := WindK.cells HS.out.win (by omega)
              simp only [Value.slice.injEq] at hla
              obtain ⟨rfl, _, rfl⟩ := hla
              obtain ⟨_, e1, e2, _, _, e5⟩ := StepsK.at hc HW.out hlt
              have glt : gb < wr.heap.size := by
                obtain ⟨c, e, fz, h1, _⟩ := hc
                exact HW.out.lt h1
              obtain ⟨z0, z1, z2⟩ := HS.out.size _ (List.getElem_mem hlt)
              have zw := HS.out.wind _ (List.getElem_mem hlt)
              obtain ⟨⟨kd, nm, to', sid, sn, bv, bs⟩, hsk⟩ : ∃ f, f = sl[k] := ⟨_, rfl⟩
              rw [← hsk] at e1 e2 e5 z0 z1 z2 zw
              simp only at e1 e2 e5 z0 z1 z2 zw
              obtain ⟨ya, yc, rfl⟩ := zw.shape
              have HFK := Lib.hid hsk
              have wk2 : IntKind.i64.wrap ((N : Int) + (bs.length : Int)) = (N : Int) + bs.length := wrap_small (by omega) (by omega)
              have wk3 : IntKind.i64.wrap ((N : Int) + (bs.length : Int) + (nm.size : Int)) = (N : Int) + bs.length + nm.size := wrap_small (by omega) (by omega)
              have wk4 : IntKind.i64.wrap ((N : Int) + (bs.length : Int) + (nm.size : Int) + (to'.size : Int)) = (N : Int) + bs.length + nm.size + to'.size := wrap_small (by omega) (by omega)
              clear hsk hc zw
              go_wp2_with fail
              go_quiet (fail)
              go_wp2_with fail
              go_roundw
              case rel =>
                refine ⟨N + bs.length + nm.size + to'.size, k + 1, hlt, by go_num, by go_num, by omega, by omega, Lib.hid (HW.out.drewN nq), Lib.hid (HE.out.drewN nq), Lib.hid (fun h => ⟨(HA.out (by omega)).1, mem_take_succ hlt (HA.out (by omega)).2 ?_⟩)⟩
                rw [← HFK.out]
                show bs.length + nm.size + to'.size ≤ 6000
                omega
              case measure => simp [intOf]; omega
            · have h7 : ¬ (6000 < (N : Int)) := by omega
              by_cases h2 : 200 < (sl.length : Int)
              · go_wp2_with fail
                go_ret
                exact Post.mk m (Mem.le_refl _) HW.out HE.out ⟨true, rfl, fun h => by cases h⟩
              · go_wp2_with fail
                go_ret
                refine Post.mk m (Mem.le_refl _) HW.out HE.out ⟨false, rfl, fun _ => ?_⟩
                have h := HA.out (by omega)
                rw [List.take_of_length_le (by omega)] at h
                exact ⟨by omega, by omega, by omega, h.1, h.2⟩
          · have h7 : 6000 < (N : Int) := by omega
            by_cases hlt : k < sl.length
            all_goals
              go_wp2_with fail
              go_ret
              exact Post.mk m (Mem.le_refl _) HW.out HE.out ⟨true, rfl, fun h => by cases h⟩
    · have HB : Hid (N ≤ 6000 → ∀ f ∈ fl, fileN f ≤ 6000) := Lib.hid (fun h => by omega)
      clear HA
      by_cases hlt : k < fl.length
      all_goals
        go_wp2_with fail
        go_loopw [7, 9] (fun n i wr => ∃ (N k : Nat), k ≤ sl.length ∧ n = .int .i64 N ∧ i = .int .i64 k ∧ fl.length + nx + sl.length ≤ N ∧ N ≤ 1125899906842624 ∧ Hid (Has wr m) ∧ Hid (Env w wr) ∧ Hid (N ≤ 6000 → (∀ f ∈ fl, fileN f ≤ 6000) ∧ ∀ s ∈ sl.take k, stpN s ≤ 6000)) (fun _ i _ => sl.length - (intOf i).toNat)
        case atStart => exact ⟨N, 0, Nat.zero_le _, rfl, rfl, hN, hNb, HW, HE, Lib.hid (fun h => ⟨HB.out h, fun s hs => by simp at hs⟩)⟩
        case round =>
          clear HB HW HE hN hNb
          obtain ⟨N, k, hk, rfl, rfl, hN, hNb, HW, HE, HA⟩ := hrel
          by_cases h6 : (N : Int) ≤ 6000
          · by_cases hlt : k < sl.length
            · obtain ⟨gb, go, cap, hla, hc⟩ := WindK.cells HS.out.win (by omega)
              simp only [Value.slice.injEq] at hla
              obtain ⟨rfl, _, rfl⟩ := hla
              obtain ⟨_, e1, e2, _, _, e5⟩ := StepsK.at hc HW.out hlt
              have glt : gb < wr.heap.size := by
                obtain ⟨c, e, fz, h1, _⟩ := hc
                exact HW.out.lt h1
              obtain ⟨z0, z1, z2⟩ := HS.out.size _ (List.getElem_mem hlt)
              have zw := HS.out.wind _ (List.getElem_mem hlt)
              obtain ⟨⟨kd, nm, to', sid, sn, bv, bs⟩, hsk⟩ : ∃ f, f = sl[k] := ⟨_, rfl⟩
              rw [← hsk] at e1 e2 e5 z0 z1 z2 zw
              simp only at e1 e2 e5 z0 z1 z2 zw
              obtain ⟨ya, yc, rfl⟩ := zw.shape
              have HFK := Lib.hid hsk
              have wk2 : IntKind.i64.wrap ((N : Int) + (bs.length : Int)) = (N : Int) + bs.length := wrap_small (by omega) (by omega)
              have wk3 : IntKind.i64.wrap ((N : Int) + (bs.length : Int) + (nm.size : Int)) = (N : Int) + bs.length + nm.size := wrap_small (by omega) (by omega)
              have wk4 : IntKind.i64.wrap ((N : Int) + (bs.length : Int) + (nm.size : Int) + (to'.size : Int)) = (N : Int) + bs.length + nm.size + to'.size := wrap_small (by omega) (by omega)
              clear hsk hc zw
              go_wp2_with fail
              go_quiet (fail)
              go_wp2_with fail
              go_roundw
              case rel =>
                refine ⟨N + bs.length + nm.size + to'.size, k + 1, hlt, by go_num, by go_num, by omega, by omega, Lib.hid (HW.out.drewN nq), Lib.hid (HE.out.drewN nq), Lib.hid (fun h => ⟨(HA.out (by omega)).1, mem_take_succ hlt (HA.out (by omega)).2 ?_⟩)⟩
                rw [← HFK.out]
                show bs.length + nm.size + to'.size ≤ 6000
                omega
              case measure => simp [intOf]; omega
            · have h7 : ¬ (6000 < (N : Int)) := by omega
              by_cases h2 : 200 < (sl.length : Int)
              · go_wp2_with fail
                go_ret
                exact Post.mk m (Mem.le_refl _) HW.out HE.out ⟨true, rfl, fun h => by cases h⟩
              · go_wp2_with fail
                go_ret
                refine Post.mk m (Mem.le_refl _) HW.out HE.out ⟨false, rfl, fun _ => ?_⟩
                have h := HA.out (by omega)
                rw [List.take_of_length_le (by omega)] at h
                exact ⟨by omega, by omega, by omega, h.1, h.2⟩
          · have h7 : 6000 < (N : Int) := by omega
            by_cases hlt : k < sl.length
            all_goals
              go_wp2_with fail
              go_ret
              exact Post.mk m (Mem.le_refl _) HW.out HE.out ⟨true, rfl, fun h => by cases h⟩
end Go.Proofs.YtcdmdkgiabfbeaaGreatDoor

/-
  The program's store and the document's in one memory: what an operation on both comes to.
-/
namespace Go.Proofs.YtcdmdkgiabfbeaaGreatDoor
open Go.RowKit

structure Two (m : Mem) (sb rb : Nat) (g : G) (r : RG) : Prop where
  st : SRep m sb g
  rf : RR m rb r
  eq : r.abs = g.abs
  sep : ∀ b, FP sb g b → ¬ RFP rb r b

/-- What both take up. -/
def PP (sb rb : Nat) (g : G) (r : RG) (b : Nat) : Prop := FP sb g b ∨ RFP rb r b

theorem Two.known {m : Mem} {sb rb : Nat} {g : G} {r : RG} (h : Two m sb rb g r) {b : Nat} (hb : PP sb rb g r b) : ∃ o, m b = some o := by
  rcases hb with hb | hb
  · exact h.st.known hb
  · exact h.rf.rep.known hb
theorem Two.keep {m m' : Mem} {sb rb : Nat} {g : G} {r : RG} (h : Two m sb rb g r) (k : ∀ b o, PP sb rb g r b → m b = some o → m' b = some o) : Two m' sb rb g r :=
  ⟨h.st.keep fun b o hb hm => k b o (.inl hb) hm, ⟨h.rf.rep.keep fun b o hb hm => k b o (.inr hb) hm, h.rf.zero⟩, h.eq, h.sep⟩
theorem Two.le {m m' : Mem} {sb rb : Nat} {g : G} {r : RG} (h : Two m sb rb g r) (l : m.le m') : Two m' sb rb g r := h.keep fun b o _ hm => l b o hm

/-- What lies elsewhere stays, and stays elsewhere. -/
theorem Fr.other {m m' : Mem} {P P' Q : Nat → Prop} (h : Fr m m' P P') (known : ∀ b, Q b → ∃ o, m b = some o) (sep : ∀ b, Q b → ¬ P b) : (∀ b o, Q b → m b = some o → m' b = some o) ∧ ∀ b, Q b → ¬ P' b := by
  refine ⟨fun b o hb hm => h.keep b o hm (sep b hb), fun b hb hp => ?_⟩
  rcases h.new b hp with x | x
  · exact sep b hb x
  · obtain ⟨o, ho⟩ := known b hb
    rw [x] at ho; cases ho

/-- What was known ahead of a thing that was made since. -/
theorem Fr.base {m m' m0 : Mem} {P P' : Nat → Prop} (h : Fr m m' P P') (l : m0.le m) (new : ∀ b, P b → m0 b = none) : m0.le m' ∧ ∀ b, P' b → m0 b = none := by
  refine ⟨fun b o hb => h.keep b o (l _ _ hb) fun hp => ?_, fun b hp => ?_⟩
  · rw [new b hp] at hb; cases hb
  · rcases h.new b hp with x | x
    · exact new b x
    · exact Mem.none_le l x

/-- Between the two. -/
structure Mid (m : Mem) (sb rb : Nat) (g : G) (r : RG) (m1 : Mem) (g1 : G) : Prop where
  st : SRep m1 sb g1
  rf : RR m1 rb r
  sep : ∀ b, FP sb g1 b → ¬ RFP rb r b
  fr : Fr m m1 (FP sb g) (FP sb g1)

theorem Mid.le {m m1 m1' : Mem} {sb rb : Nat} {g g1 : G} {r : RG} (h : Mid m sb rb g r m1 g1) (l : m1.le m1') : Mid m sb rb g r m1' g1 := ⟨h.st.le l, h.rf.le l, h.sep, h.fr.le l⟩

theorem Two.fst {β : Type} {F : A × Int × β} {X : Mem → β → Prop} {m m1 : Mem} {sb rb : Nat} {g : G} {r : RG} {x : Int} (h : Two m sb rb g r) (o : OpR m sb g (fun _ => False) F X m1 x) :
    ∃ g1, Mid m sb rb g r m1 g1 ∧ g1.abs = F.1 ∧ x = F.2.1 ∧ X m1 F.2.2 := by
  obtain ⟨g1, h1, h2, h3, h4, h5⟩ := o
  have fr : Fr m m1 (FP sb g) (FP sb g1) := ⟨fun b o hb hp => h2.keep b o hb (by rintro (x | x); exact hp x; exact x), fun b hb => by
    rcases h2.new b hb with (x | x) | x
    · exact .inl x
    · exact x.elim
    · exact .inr x⟩
  obtain ⟨k1, k2⟩ := fr.other (Q := RFP rb r) (fun b hb => h.rf.rep.known hb) (fun b hb hp => h.sep b hp hb)
  exact ⟨g1, ⟨h1, ⟨h.rf.rep.keep fun b o hb hm => k1 b o hb hm, h.rf.zero⟩, fun b hp hb => k2 b hb hp, fr⟩, h3, h4, h5⟩

theorem Mid.snd {β : Type} {F : A × Int × β} {X : Mem → β → Prop} {m m1 m2 : Mem} {sb rb : Nat} {g g1 : G} {r : RG} {x : Int} (h : Mid m sb rb g r m1 g1) (o : ROpR m1 rb r F X m2 x) (he : g1.abs = F.1) :
    ∃ r2, Two m2 sb rb g1 r2 ∧ Fr m m2 (PP sb rb g r) (PP sb rb g1 r2) ∧ x = F.2.1 ∧ X m2 F.2.2 ∧ Fr m1 m2 (RFP rb r) (RFP rb r2) := by
  obtain ⟨r2, h1, h2, h3, h4, h5⟩ := o
  obtain ⟨k1, k2⟩ := h2.other (Q := FP sb g1) (fun b hb => h.st.known hb) h.sep
  refine ⟨r2, ⟨h.st.keep k1, h1, by rw [h3, he], k2⟩, ⟨fun b o hb hp => h2.keep b o (h.fr.keep b o hb fun x => hp (.inl x)) fun x => hp (.inr x), fun b hb => ?_⟩, h4, h5, h2⟩
  rcases hb with hb | hb
  · rcases h.fr.new b hb with x | x
    · exact .inl (.inl x)
    · exact .inr x
  · rcases h2.new b hb with x | x
    · exact .inl (.inr x)
    · by_cases hp : FP sb g b
      · exact .inl (.inl hp)
      · cases hm : m b with
        | none => exact .inr rfl
        | some o => rw [h.fr.keep b o hm hp] at x; cases x

/-- Bytes that the first operation answered, behind the second. -/
theorem OutB.snd {m m1 m2 : Mem} {v : Value} {bs : List UInt8} {rb : Nat} {r : RG} {P : Nat → Prop} (o : OutB m v m1 bs) (h : RR m rb r) (fr : Fr m1 m2 (RFP rb r) P) : OutB m v m2 bs :=
  ⟨o.1.keep (fun b ob hb hm => fr.keep b ob hm fun hp => by
    obtain ⟨o', ho⟩ := h.rep.known hp
    have h0 := o.2 b hb
    exact absurd ho (by rw [h0]; simp)), o.2⟩

/-- What does comes to. -/
def DoesR (w : World) (m : Mem) (sb rb : Nat) (g : G) (r : RG) (F : A) (e : Ending) (w2 : World) : Prop :=
  ∃ m2 g2 r2, e = .returned (.bool true) ∧ Has w2 m2 ∧ Env w w2 ∧ Two m2 sb rb g2 r2 ∧ g2.abs = F ∧ Fr m m2 (PP sb rb g r) (PP sb rb g2 r2)

theorem Two.n {m : Mem} {sb rb : Nat} {g : G} {r : RG} (h : Two m sb rb g r) : r.n = g.n := by
  have h1 : r.abs.n = g.abs.n := by rw [h.eq]
  exact h1
end Go.Proofs.YtcdmdkgiabfbeaaGreatDoor

/-
  Both stores, made: they are the same.
-/
namespace Go.Proofs.YtcdmdkgiabfbeaaGreatDoor
open Go.RowKit

theorem name_ne {s : ByteArray} (h : isNameB s = true) : s ≠ ⟨#[]⟩ := by
  rintro rfl
  rw [isNameB_eq] at h
  exact absurd h (by decide)

theorem look_new : ∀ (L : List Ent) (F : List RF), F.map (fun f => (f.name, f.bs)) = L.map (fun e => (e.name, e.bs)) → (∀ e ∈ L, isNameB e.name = true) → ∀ s, (getR F s).map (·.bs) = (getE L s).map (·.bs)
  | [], [], _, _, _ => rfl
  | [], _ :: _, h, _, _ => by cases h
  | _ :: _, [], h, _, _ => by cases h
  | e :: L, f :: F, h, hn, s => by
    simp only [List.map_cons, List.cons.injEq, Prod.mk.injEq] at h
    have ih := look_new L F h.2 (fun d hd => hn d (List.mem_cons_of_mem _ hd)) s
    have he := name_ne (hn e (List.mem_cons_self ..))
    unfold getR getE at ih ⊢
    rw [List.find?_cons, List.find?_cons, h.1.1]
    by_cases hs : s = e.name
    · subst hs
      simp [he, h.1.2]
    · have h2 : ¬ (e.name = s ∧ s ≠ ⟨#[]⟩) := fun c => hs c.1.symm
      rw [decide_eq_false h2, decide_eq_false hs]
      exact ih

theorem count_new : ∀ (L : List Ent) (F : List RF), F.map (fun f => (f.name, f.bs)) = L.map (fun e => (e.name, e.bs)) → (∀ e ∈ L, isNameB e.name = true) → (F.filter neB).length = L.length
  | [], [], _, _ => rfl
  | [], _ :: _, h, _ => by cases h
  | _ :: _, [], h, _ => by cases h
  | e :: L, f :: F, h, hn => by
    simp only [List.map_cons, List.cons.injEq, Prod.mk.injEq] at h
    have ih := count_new L F h.2 (fun d hd => hn d (List.mem_cons_of_mem _ hd))
    have he := name_ne (hn e (List.mem_cons_self ..))
    rw [List.filter_cons_of_pos (show neB f = true from decide_eq_true (by rw [h.1.1]; exact he)), List.length_cons, ih, List.length_cons]

theorem abs_newTwo {g : G} {r : RG} {fl : List File2} {xl : List Fail3} (hnm : ∀ e ∈ g.L, isNameB e.name = true) (h1 : g.L.map (fun e => (e.name, e.bs)) = fl.map (fun f => (f.1, f.2.data.toList))) (h2 : g.O = []) (h3 : g.fails = xl) (h4 : g.n = 0)
    (k1 : r.F.map (fun f => (f.name, f.bs)) = (⟨#[]⟩, []) :: fl.map (fun f => (f.1, f.2.data.toList))) (k2 : r.O = List.replicate 33 ⟨0, 0, 0⟩) (k3 : r.X = xl) (k4 : r.n = 0) : r.abs = g.abs := by
  cases hF : r.F with
  | nil => rw [hF] at k1; cases k1
  | cons f F =>
    rw [hF] at k1
    simp only [List.map_cons, List.cons.injEq, Prod.mk.injEq] at k1
    obtain ⟨⟨kn, kb⟩, kF⟩ := k1
    rw [← h1] at kF
    simp only [RG.abs, G.abs, A.mk.injEq]
    refine ⟨?_, ?_, ?_, by rw [k3, h3], by rw [k4, h4]⟩
    · funext s
      rw [hF]
      have h5 : getR (f :: F) s = getR F s := by
        unfold getR
        rw [List.find?_cons]
        have : ¬ (f.name = s ∧ s ≠ ⟨#[]⟩) := fun c => c.2 (by rw [← c.1, kn])
        rw [decide_eq_false this]
      rw [h5]
      exact look_new g.L F kF hnm s
    · rw [hF, List.filter_cons_of_neg (by rw [show neB f = false from decide_eq_false (fun c => c kn)]; simp)]
      exact count_new g.L F kF hnm
    · funext i
      rw [h2, k2]
      rw [List.getElem?_replicate]
      by_cases hi : i + 1 < 33
      · rw [if_pos hi]; rfl
      · rw [if_neg hi]; rfl

theorem two_new {m m2 m2' m3 : Mem} {fl : List File2} {xl : List Fail3} {v u : Value} (hv : NewR m fl xl v m2) (hu : NewRR m2' fl xl u m3) (l1 : m.le m2) (l2 : m2.le m2') (l3 : m2'.le m3) (h0 : newE fl xl.length = 0) :
    ∃ sb g rb r, v = .tuple #[.pointer (some ⟨sb, 0, none⟩), .int .i64 0] ∧ u = .tuple #[.pointer (some ⟨rb, 0, none⟩), .int .i64 0] ∧ Two m3 sb rb g r ∧ (∀ b, FP sb g b → m b = none) ∧ (∀ b, RFP rb r b → m2' b = none) ∧ g.abs = A0 fl xl ∧ SRep m2 sb g := by
  obtain ⟨sb, g, rfl, s1, s2, s3, s4, s5, s6⟩ := hv.1 h0
  obtain ⟨rb, r, rfl, r1, r2, r3, r4, r5, r6⟩ := hu.1 h0
  refine ⟨sb, g, rb, r, rfl, rfl, ⟨s1.le (Mem.le_trans l2 l3), ⟨r1, fun o ho => ?_⟩, abs_newTwo s1.nm s3 s4 s5 s6 r3 r4 r5 r6, fun b hb hr => ?_⟩, s2, r2, abs_new s3 s4 s5 s6, s1⟩
  · rw [r4] at ho
    rw [List.getElem?_replicate, if_pos (by decide)] at ho
    obtain rfl := Option.some.inj ho
    rfl
  · obtain ⟨o, ho⟩ := s1.known hb
    have := l2 _ _ ho
    rw [r2 b hr] at this; cases this
end Go.Proofs.YtcdmdkgiabfbeaaGreatDoor
