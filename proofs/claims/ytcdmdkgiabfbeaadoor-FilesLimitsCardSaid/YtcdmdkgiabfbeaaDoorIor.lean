/-
  ior: what an operation answers, out of an error of package files.
-/
import Derived.Test.YtcdmdkgiabfbeaaDoorAs
namespace Go.Proofs.YtcdmdkgiabfbeaaDoor
open Go.RowKit

/-- errors.errorType holds the handle of 'error'. -/
def GlobOk (m : Mem) : Prop := ∃ c e fz, m 0 = some (.cells c e fz) ∧ c[0]? = some (.iface 122 (.agg #[.pointer (some ⟨2, 64, none⟩)]))
theorem GlobOk.le {m n : Mem} (h : GlobOk m) (k : m.le n) : GlobOk n := by
  obtain ⟨c, e, fz, h1, h2⟩ := h
  exact ⟨c, e, fz, k _ _ h1, h2⟩

set_option maxHeartbeats 400000 in
theorem ior_nil (w : World) (m : Mem) (hm : Has w m) :
    Calls Tryd.prog 29 #[.nilIface] w (Post w m fun v _ => v = .int .i64 0) := by
  have H := Lib.hid hm
  clear hm
  go_enter Tryd.func29, Tryd.ntmps29
  go_wp2_with (go_at_call 55; refine (as_nil _ _).mono ?_; rintro e w' ⟨rfl, rfl⟩)
  go_ret
  exact Post.mk _ (Mem.le_refl _) (H.out.keep _) ((Env.refl w).alloc _) rfl

set_option maxHeartbeats 400000 in
theorem ior_hit (b : Nat) (x : Int) (w : World) (m : Mem) (hm : Has w m) (hG : GlobOk m) (hb : m b = some (.cells #[.int .i64 x] 102 (0, 0))) :
    Calls Tryd.prog 29 #[.iface 98 (.pointer (some ⟨b, 0, none⟩))] w (Post w m fun v _ => v = .int .i64 x) := by
  obtain ⟨c, e, fz, hg, hc⟩ := hG
  have hne : m w.heap.size = none := hm.fresh (Nat.le_refl _)
  have h1 := hm.alloc (.cells #[.pointer none] 98)
  have k1 := Mem.le_set m (.cells #[.pointer none] 98) hne
  have g1 : (w.alloc (.cells #[.pointer none] 98)).cell? ⟨0, 0, none⟩ = some (.iface 122 (.agg #[.pointer (some ⟨2, 64, none⟩)])) := by
    rw [h1.cell (k1 _ _ hg)]; exact hc
  have t1 : (w.alloc (.cells #[.pointer none] 98)).cell? ⟨w.heap.size, 0, none⟩ = some (.pointer none) := by
    rw [h1.cell (Mem.set_same _ _ _)]; rfl
  have f1 : (w.alloc (.cells #[.pointer none] 98)).frozen? ⟨w.heap.size, 0, none⟩ = false := h1.froz (Mem.set_same _ _ _)
  have H := Lib.hid hm
  have HB := Lib.hid hb
  have HN := Lib.hid hne
  have H1 := Lib.hid h1
  have G1 := Lib.hid g1
  have T1 := Lib.hid t1
  have F1 := Lib.hid f1
  clear hm hb hne h1 g1 t1 f1 hg hc k1
  go_enter Tryd.func29, Tryd.ntmps29
  go_wp2_with fail
  refine (as_hit ⟨b, 0, none⟩ ⟨w.heap.size, 0, none⟩ (.pointer none) _ G1.out T1.out F1.out).mono ?_
  rintro ev w' ⟨rfl, hw⟩
  -- what is known behind it
  have a1 := H1.out.alloc (.cells #[.pointer (some ⟨w.heap.size, 0, none⟩)] 100)
  have a2 := a1.alloc (.cells #[.pointer (some ⟨2, 100, none⟩), .pointer (some ⟨(w.alloc (.cells #[.pointer none] 98)).heap.size, 0, none⟩), .int .u64 150] 108)
  have a3 := a2.alloc (.cells #[.pointer (some ⟨2, 100, none⟩), .pointer (some ⟨(w.alloc (.cells #[.pointer none] 98)).heap.size, 0, none⟩), .int .u64 150] 108)
  have a4 := a3.alloc (.cells #[.pointer (some ⟨b, 0, none⟩)] 98)
  have l1 := Mem.le_set _ (.cells #[.pointer (some ⟨w.heap.size, 0, none⟩)] 100) (H1.out.fresh (Nat.le_refl _))
  have l2 := Mem.le_set _ (.cells #[.pointer (some ⟨2, 100, none⟩), .pointer (some ⟨(w.alloc (.cells #[.pointer none] 98)).heap.size, 0, none⟩), .int .u64 150] 108) (a1.fresh (Nat.le_refl _))
  have l3 := Mem.le_set _ (.cells #[.pointer (some ⟨2, 100, none⟩), .pointer (some ⟨(w.alloc (.cells #[.pointer none] 98)).heap.size, 0, none⟩), .int .u64 150] 108) (a2.fresh (Nat.le_refl _))
  have l4 := Mem.le_set _ (.cells #[.pointer (some ⟨b, 0, none⟩)] 98) (a3.fresh (Nat.le_refl _))
  have a5 := (a4.le (Mem.le_trans (Mem.le_trans (Mem.le_trans l1 l2) l3) l4)).store (off := 0) (Mem.set_same _ _ _) (.pointer (some ⟨b, 0, none⟩))
  rw [← hw] at a5
  have c1 : w'.cell? ⟨w.heap.size, 0, none⟩ = some (.pointer (some ⟨b, 0, none⟩)) := by rw [a5.cell (Mem.set_same _ _ _)]; rfl
  have a6 : Has w' m := a5.le (by rw [Mem.set_set]; exact Mem.le_set _ _ HN.out)
  have c2 : w'.cell? ⟨b, 0, none⟩ = some (.int .i64 x) := by rw [a6.cell HB.out]; rfl
  have EN : Hid (Env w w') := Lib.hid (by rw [hw]; exact ((((((Env.refl w).alloc _).alloc _).alloc _).alloc _).alloc _).setCell _ _)
  have A6 := Lib.hid a6
  clear hw a1 a2 a3 a4 a5 a6 l1 l2 l3 l4
  go_wp2_with fail
  go_ret
  exact Post.mk _ (Mem.le_refl _) A6.out EN.out rfl

theorem ior_any (ev : Value) (x : Int) (w : World) (m : Mem) (hm : Has w m) (hG : GlobOk m) (he : ErrIs m ev x) :
    Calls Tryd.prog 29 #[ev] w (Post w m fun v _ => v = .int .i64 x) := by
  rcases he with ⟨rfl, rfl⟩ | ⟨_, b, rfl, hb⟩
  · exact ior_nil w m hm
  · exact ior_hit b x w m hm hG hb
end Go.Proofs.YtcdmdkgiabfbeaaDoor
