/-
  The operations of a store that is none.
-/
import Derived.Test.YtcdmdkgiabfbeaaGreatDoorAwake
namespace Go.Proofs.YtcdmdkgiabfbeaaGreatDoor
open Go.RowKit

theorem with_nil (id : Int) (fv : Value) (w : World) : Calls Tryz.prog 34 #[.pointer none, .int .i64 id, fv] w fun e w' => e = .returned (.int .i64 0) ∧ w' = w := by
  go_enter Tryz.func34, Tryz.ntmps34
  go_wp2_with fail
  go_ret
  exact ⟨rfl, rfl⟩

def PairO (v : Value) (_ : Mem) : Prop := v = .tuple #[.int .i64 0, .int .i64 0]
def IntO (v : Value) (_ : Mem) : Prop := v = .int .i64 0

theorem create_nil (s : ByteArray) (mode : Int) (w : World) (m : Mem) (hm : Has w m) : Calls Tryz.prog 8 #[.pointer none, .string s, .int .i64 mode] w (Post w m PairO) := by
  have HM := Lib.hid hm
  clear hm
  go_enter Tryz.func8, Tryz.ntmps8
  go_wp2_with fail
  refine bodyPost_ret (v := .tuple #[.int .i64 0, .int .i64 0]) (by simp [results, Tryz.results8, go_sem]) rfl ?_
  exact Post.mk m (Mem.le_refl _) ((HM.out.keep _).keep _) (((Env.refl w).alloc _).alloc _) rfl

theorem delete_nil (s : ByteArray) (w : World) (m : Mem) (hm : Has w m) : Calls Tryz.prog 13 #[.pointer none, .string s] w (Post w m IntO) := by
  have HM := Lib.hid hm
  clear hm
  go_enter Tryz.func13, Tryz.ntmps13
  go_wp2_with fail
  go_ret
  exact Post.mk m (Mem.le_refl _) HM.out (Env.refl w) rfl

theorem rename_nil (s t : ByteArray) (w : World) (m : Mem) (hm : Has w m) : Calls Tryz.prog 14 #[.pointer none, .string s, .string t] w (Post w m IntO) := by
  have HM := Lib.hid hm
  clear hm
  go_enter Tryz.func14, Tryz.ntmps14
  go_wp2_with fail
  go_ret
  exact Post.mk m (Mem.le_refl _) ((HM.out.keep _).keep _) (((Env.refl w).alloc _).alloc _) rfl

theorem seek_nil (id n : Int) (w : World) (m : Mem) (hm : Has w m) : Calls Tryz.prog 12 #[.pointer none, .int .i64 id, .int .i64 n] w (Post w m IntO) := by
  have HM := Lib.hid hm
  clear hm
  go_enter Tryz.func12, Tryz.ntmps12
  go_wp2_with ((go_at_call 34); refine (with_nil _ _ _).mono ?_; rintro e w' ⟨rfl, rfl⟩)
  go_ret
  exact Post.mk m (Mem.le_refl _) (HM.out.keep _) ((Env.refl w).alloc _) rfl

theorem write_nil (id : Int) (y : Value) (w : World) (m : Mem) (hm : Has w m) (hy : ∃ a n c, y = .slice a n c) : Calls Tryz.prog 11 #[.pointer none, .int .i64 id, y] w (Post w m IntO) := by
  have HM := Lib.hid hm
  clear hm
  obtain ⟨a, n, c, rfl⟩ := hy
  go_enter Tryz.func11, Tryz.ntmps11
  go_wp2_with ((go_at_call 34); refine (with_nil _ _ _).mono ?_; rintro e w' ⟨rfl, rfl⟩)
  go_ret
  exact Post.mk m (Mem.le_refl _) (HM.out.keep _) ((Env.refl w).alloc _) rfl

theorem close_nil (id : Int) (w : World) (m : Mem) (hm : Has w m) : Calls Tryz.prog 15 #[.pointer none, .int .i64 id] w (Post w m IntO) := by
  have HM := Lib.hid hm
  clear hm
  go_enter Tryz.func15, Tryz.ntmps15
  go_wp2_with ((go_at_call 34); refine (with_nil _ _ _).mono ?_; rintro e w' ⟨rfl, rfl⟩)
  go_ret
  exact Post.mk m (Mem.le_refl _) ((HM.out.keep _).keep _) (((Env.refl w).alloc _).alloc _) rfl

theorem size_nil (id : Int) (w : World) (m : Mem) (hm : Has w m) : Calls Tryz.prog 10 #[.pointer none, .int .i64 id] w (Post w m PairO) := by
  have HM := Lib.hid hm
  clear hm
  go_enter Tryz.func10, Tryz.ntmps10
  go_wp2_with ((go_at_call 34); refine (with_nil _ _ _).mono ?_; rintro e w' ⟨rfl, rfl⟩)
  refine bodyPost_ret (v := .tuple #[.int .i64 0, .int .i64 0]) (by simp [results, Tryz.results10, go_sem]) rfl ?_
  exact Post.mk m (Mem.le_refl _) (HM.out.keep _) ((Env.refl w).alloc _) rfl

theorem read_nil (id n : Int) (w : World) (m : Mem) (hm : Has w m) : Calls Tryz.prog 9 #[.pointer none, .int .i64 id, .int .i64 n] w (Post w m fun v _ => v = .tuple #[.slice none 0 0, .int .i64 0]) := by
  have HM := Lib.hid hm
  clear hm
  go_enter Tryz.func9, Tryz.ntmps9
  go_wp2_with ((go_at_call 34); refine (with_nil _ _ _).mono ?_; rintro e w' ⟨rfl, rfl⟩)
  refine bodyPost_ret (v := .tuple #[.slice none 0 0, .int .i64 0]) (by simp [results, Tryz.results9, go_sem]) rfl ?_
  exact Post.mk m (Mem.le_refl _) ((HM.out.keep _).keep _) (((Env.refl w).alloc _).alloc _) rfl

theorem ops_nil (w : World) : Calls Tryz.prog 16 #[.pointer none] w fun e w' => e = .returned (.int .i64 0) ∧ w' = w := by
  go_enter Tryz.func16, Tryz.ntmps16
  go_wp2_with fail
  go_ret
  exact ⟨rfl, rfl⟩
theorem files_nil (w : World) : Calls Tryz.prog 17 #[.pointer none] w fun e w' => e = .returned (.slice none 0 0) ∧ w' = w := by
  go_enter Tryz.func17, Tryz.ntmps17
  go_wp2_with fail
  go_ret
  exact ⟨rfl, rfl⟩
end Go.Proofs.YtcdmdkgiabfbeaaGreatDoor
