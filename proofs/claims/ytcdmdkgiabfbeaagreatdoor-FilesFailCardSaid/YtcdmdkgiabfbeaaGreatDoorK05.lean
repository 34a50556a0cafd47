/-
  errors.As at the target that package files hands it ('var f *failure; errors.As(err, &f)'): after the guide's worked example ToyasAs.lean, turned to this dump's numbers; and ior, which asks it.
-/
import Derived.Test.YtcdmdkgiabfbeaaGreatDoorK01
import Derived.Test.YtcdmdkgiabfbeaaGreatDoorK04
import Derived.LaidEql
import Derived.Stop.Asserts
import Derived.RowKitTokens
namespace Go.Proofs.YtcdmdkgiabfbeaaGreatDoor
open Go.RowKit Go.Extern.Stop Go.Stop Go.Extern

/-- errors.As(nil, target). -/
theorem as_nil (t : Value) (w : World) :
    Calls Tryz.prog 79 #[.nilIface, t] w fun e w' => e = .returned (.bool false) ∧ w' = w := by
  go_enter Tryz.func79, Tryz.ntmps79
  go_wp2
  go_ret
  exact ⟨rfl, rfl⟩

/-! ### CLOSED FACTS ON THE MODEL's ENTRIES FOR internal/reflectlite, at this program's types: 25: *p.E · 27: **p.E · 23: error · 45: reflectlite's rtype · 1: how many package-level variables the dump has -/
theorem as_valueOf27 (t : Addr) (w : World) : (ReflectliteValue.unpack (.iface 106 (.pointer (some t)))).run Tryz.prog w
    = .ok (.agg #[.pointer (some ⟨2, 106, none⟩), .pointer (some ⟨w.heap.size, 0, none⟩), .int .u64 150]) (w.alloc (.cells #[.pointer (some t)] 106)) := by kernel_rfl
theorem as_type27 (a : Addr) (w : World) : (ReflectliteValue.methodAny (ReflectliteValue.valueError "reflectlite.Value.Type" 0) (fun t _ _ _ => ReflectliteType.toType t) #[.agg #[.pointer (some ⟨2, 106, none⟩), .pointer (some a), .int .u64 150]]).run Tryz.prog w
    = .ok (.iface 135 (.agg #[.pointer (some ⟨2, 106, none⟩)])) w := by kernel_rfl
theorem as_methodKind (h : Value) (w : World) : (Go.method 296 135 (.agg #[h]) "Kind").run Tryz.prog w = .ok (146, h) w := by kernel_rfl
theorem as_kind27 (w : World) : ((ReflectliteType.abiMethod fun t => (fun a : Nat => Value.int IntKind.u8 (a : Int)) <$> Rtype.kind t) #[.pointer (some ⟨2, 106, none⟩)]).run Tryz.prog w = .ok (.int .u8 22) w := by kernel_rfl
theorem as_kind25 (w : World) : ((ReflectliteType.abiMethod fun t => (fun a : Nat => Value.int IntKind.u8 (a : Int)) <$> Rtype.kind t) #[.pointer (some ⟨2, 104, none⟩)]).run Tryz.prog w = .ok (.int .u8 22) w := by kernel_rfl

/-! ### THE ENTRIES THAT READ OR WRITE MEMORY: laws with a premise on the cell (after Derived/Lib/ReflectliteSlice.lean's manner: each unfolding a lemma of its own, by rfl) -/
theorem rlm (z : Sem Value) (f : TypeId → Addr → Nat → Nat → Sem Value) (v : Value) :
    ReflectliteValue.method z f #[v] = (do match ← ReflectliteValue.parts v with | none => z | some (t, a, fl) => f t a fl (fl % 32)) := rfl
theorem as_parts27 (a : Addr) (w : World) : (ReflectliteValue.parts (.agg #[.pointer (some ⟨2, 106, none⟩), .pointer (some a), .int .u64 150])).run Tryz.prog w = .ok (some (106, a, 150)) w := by kernel_rfl
/-- (Value).IsNil at the Value of a **p.E that is not nil. -/
theorem as_isNil27 (a p : Addr) (W : World) (ha : W.cell? a = some (.pointer (some p))) :
    (ReflectliteValue.method (ReflectliteValue.valueError "reflectlite.Value.IsNil" 0) ReflectliteValue.isNil #[.agg #[.pointer (some ⟨2, 106, none⟩), .pointer (some a), .int .u64 150]]).run Tryz.prog W = .ok (.bool false) W := by
  rw [rlm]
  simp only [Sem.run_bind, as_parts27, Result.andThen]
  simp [ReflectliteValue.isNil, loadVar, isAgg, underlying, Tryz.underlying106, ha, Result.andThen]

theorem as_methodElem (h : Value) (w : World) : (Go.method 296 135 (.agg #[h]) "Elem").run Tryz.prog w = .ok (156, .agg #[h]) w := by kernel_rfl
theorem as_methodImplements (h : Value) (w : World) : (Go.method 296 135 (.agg #[h]) "Implements").run Tryz.prog w = .ok (157, .agg #[h]) w := by kernel_rfl
theorem as_methodAssignableTo (h : Value) (w : World) : (Go.method 296 135 (.agg #[h]) "AssignableTo").run Tryz.prog w = .ok (154, .agg #[h]) w := by kernel_rfl
theorem as_elem27 (w : World) : (ReflectliteType.method ReflectliteType.elem #[.agg #[.pointer (some ⟨2, 106, none⟩)]]).run Tryz.prog w = .ok (.iface 135 (.agg #[.pointer (some ⟨2, 104, none⟩)])) w := by kernel_rfl
theorem as_implements25 (w : World) : (ReflectliteType.relation "Implements" ReflectliteType.implements_ #[.agg #[.pointer (some ⟨2, 104, none⟩)], .iface 135 (.agg #[.pointer (some ⟨2, 64, none⟩)])]).run Tryz.prog w = .ok (.bool true) w := by kernel_rfl
theorem as_typeOf25 (v : Value) (w : World) : (ReflectliteType.typeOf #[.iface 104 v]).run Tryz.prog w = .ok (.iface 135 (.agg #[.pointer (some ⟨2, 104, none⟩)])) w := by kernel_rfl
theorem as_assignable25 (w : World) : (ReflectliteType.relation "AssignableTo" ReflectliteType.assignableTo #[.agg #[.pointer (some ⟨2, 104, none⟩)], .iface 135 (.agg #[.pointer (some ⟨2, 104, none⟩)])]).run Tryz.prog w = .ok (.bool true) w := by kernel_rfl
theorem as_valueOf25 (e : Addr) (w : World) : (ReflectliteValue.unpack (.iface 104 (.pointer (some e)))).run Tryz.prog w
    = .ok (.agg #[.pointer (some ⟨2, 104, none⟩), .pointer (some ⟨w.heap.size, 0, none⟩), .int .u64 150]) (w.alloc (.cells #[.pointer (some e)] 104)) := by kernel_rfl

theorem as_elemOf27 (w : World) : (Rtype.elem? 106).run Tryz.prog w = .ok (some 104) w := by kernel_rfl
theorem as_mk25 (p : Addr) (w : World) : (ReflectliteValue.mk 104 p ReflectliteValue.flagAddr).run Tryz.prog w = .ok (.agg #[.pointer (some ⟨2, 104, none⟩), .pointer (some p), .int .u64 406]) w := by kernel_rfl
/-- (Value).Elem at the Value of a **p.E that is not nil: the Value of the *p.E variable that it points to, addressable. -/
theorem as_elemV27 (a p : Addr) (W : World) (ha : W.cell? a = some (.pointer (some p))) :
    (ReflectliteValue.method (ReflectliteValue.valueError "reflectlite.Value.Elem" 0) ReflectliteValue.elem #[.agg #[.pointer (some ⟨2, 106, none⟩), .pointer (some a), .int .u64 150]]).run Tryz.prog W
      = .ok (.agg #[.pointer (some ⟨2, 104, none⟩), .pointer (some p), .int .u64 406]) W := by
  rw [rlm]
  simp only [Sem.run_bind, as_parts27, Result.andThen]
  simp [ReflectliteValue.elem, loadVar, isAgg, underlying, Tryz.underlying106, ha, Result.andThen, as_elemOf27, as_mk25]
theorem rls (v x : Value) : ReflectliteValue.set #[v, x] = (do
    let (some (dst, a, fl), some (src, b, _)) := (← ReflectliteValue.parts v, ← ReflectliteValue.parts x)
      | unsupported (.noEntry "extern/(internal/reflectlite.Value).Set.zeroValue")
    if fl / ReflectliteValue.flagAddr % 2 == 0 then unsupported (.noEntry "extern/(internal/reflectlite.Value).Set.unaddressable")
    let val ← loadVar src b
    if ← Rtype.directlyAssignable dst src then storeVar dst a val
    else if ← Rtype.implements dst src then
      if (← Rtype.kind src) == 20 then
        match val with
        | .nilIface => unsupported (.noEntry "extern/reflectlite: a nil value of one interface type handed on as a value of another")
        | _ => storeVar dst a val
      else storeVar dst a (.iface src val)
    else panicString ("reflectlite.Set: value of type " ++ (← Rtype.spelt src) ++ " is not assignable to type " ++ (← Rtype.spelt dst))
    pure (.tuple #[])) := rfl
theorem as_parts25a (a : Addr) (w : World) : (ReflectliteValue.parts (.agg #[.pointer (some ⟨2, 104, none⟩), .pointer (some a), .int .u64 406])).run Tryz.prog w = .ok (some (104, a, 406)) w := by kernel_rfl
theorem as_parts25 (a : Addr) (w : World) : (ReflectliteValue.parts (.agg #[.pointer (some ⟨2, 104, none⟩), .pointer (some a), .int .u64 150])).run Tryz.prog w = .ok (some (104, a, 150)) w := by kernel_rfl
theorem as_direct25 (w : World) : (Rtype.directlyAssignable 104 104).run Tryz.prog w = .ok true w := by kernel_rfl
theorem as_size25 (w : World) : (sizeOf 104).run Tryz.prog w = .ok 1 w := by kernel_rfl
/-- (Value).Set: the *p.E variable at 'ta' gets what the Value's own variable 'b' holds. -/
theorem as_set25 (ta b e : Addr) (old : Value) (W : World) (hb : W.cell? b = some (.pointer (some e))) (ht : W.cell? ta = some old) (hf : W.frozen? ta = false) :
    (ReflectliteValue.set #[.agg #[.pointer (some ⟨2, 104, none⟩), .pointer (some ta), .int .u64 406], .agg #[.pointer (some ⟨2, 104, none⟩), .pointer (some b), .int .u64 150]]).run Tryz.prog W
      = .ok (.tuple #[]) (W.setCell ta (.pointer (some e))) := by
  rw [rls]
  simp only [Sem.run_bind, as_parts25a, as_parts25, Result.andThen]
  simp [ReflectliteValue.flagAddr, loadVar, isAgg, underlying, Tryz.underlying104, hb, Result.andThen, as_direct25, storeVar, Value.cells, storeCells, Addr.add]
  rw [run_store Tryz.prog W ta _ _ (by rfl)]
  simp [ht, hf]

set_option maxHeartbeats 4000000 in
theorem as_hit (e t : Addr) (old : Value) (w : World) (hg : w.cell? ⟨0, 0, none⟩ = some (.iface 135 (.agg #[.pointer (some ⟨2, 64, none⟩)]))) (ht0 : w.cell? t = some old) (hf0 : w.frozen? t = false) :
    Calls Tryz.prog 79 #[.iface 104 (.pointer (some e)), .iface 106 (.pointer (some t))] w fun ev w' => ev = .returned (.bool true) ∧ w' = ((((w.alloc (.cells #[.pointer (some t)] 106)).alloc (.cells #[.pointer (some ⟨2, 106, none⟩), .pointer (some ⟨w.heap.size, 0, none⟩), .int .u64 150] 120)).alloc (.cells #[.pointer (some ⟨2, 106, none⟩), .pointer (some ⟨w.heap.size, 0, none⟩), .int .u64 150] 120)).alloc (.cells #[.pointer (some e)] 104)).setCell t (.pointer (some e)) := by
  have h6 := @run_callFunc_extern Tryz.prog 102 _ (fun args => ReflectliteValue.unpack (args.getD 0 (.tuple #[]))) Tryz.func102 (by kernel_rfl) (by kernel_rfl) (by kernel_rfl) (by kernel_rfl)
  have h7 := @run_callFunc_extern Tryz.prog 103 _ (ReflectliteValue.methodAny (ReflectliteValue.valueError "reflectlite.Value.Type" 0) (fun t _ _ _ => ReflectliteType.toType t)) Tryz.func103 (by kernel_rfl) (by kernel_rfl) (by kernel_rfl) (by kernel_rfl)
  have h8 := @run_callFunc_extern Tryz.prog 104 _ (ReflectliteValue.method (ReflectliteValue.valueError "reflectlite.Value.IsNil" 0) ReflectliteValue.isNil) Tryz.func104 (by kernel_rfl) (by kernel_rfl) (by kernel_rfl) (by kernel_rfl)
  have h27 := @run_callFunc_extern Tryz.prog 146 _ (ReflectliteType.abiMethod fun t => do pure (.int .u8 (← Rtype.kind t))) Tryz.func146 (by kernel_rfl) (by kernel_rfl) (by kernel_rfl) (by kernel_rfl)
  have h37 := @run_callFunc_extern Tryz.prog 156 _ (ReflectliteType.method ReflectliteType.elem) Tryz.func156 (by kernel_rfl) (by kernel_rfl) (by kernel_rfl) (by kernel_rfl)
  have h38 := @run_callFunc_extern Tryz.prog 157 _ (ReflectliteType.relation "Implements" ReflectliteType.implements_) Tryz.func157 (by kernel_rfl) (by kernel_rfl) (by kernel_rfl) (by kernel_rfl)
  have h10 := @run_callFunc_extern Tryz.prog 111 _ ReflectliteType.typeOf Tryz.func111 (by kernel_rfl) (by kernel_rfl) (by kernel_rfl) (by kernel_rfl)
  have h35 := @run_callFunc_extern Tryz.prog 154 _ (ReflectliteType.relation "AssignableTo" ReflectliteType.assignableTo) Tryz.func154 (by kernel_rfl) (by kernel_rfl) (by kernel_rfl) (by kernel_rfl)
  have h11 := @run_callFunc_extern Tryz.prog 112 _ (ReflectliteValue.method (ReflectliteValue.valueError "reflectlite.Value.Elem" 0) ReflectliteValue.elem) Tryz.func112 (by kernel_rfl) (by kernel_rfl) (by kernel_rfl) (by kernel_rfl)
  have h12 := @run_callFunc_extern Tryz.prog 113 _ ReflectliteValue.set Tryz.func113 (by kernel_rfl) (by kernel_rfl) (by kernel_rfl) (by kernel_rfl)
  have tO := as_typeOf25
  have mA := as_methodAssignableTo
  have a25 := as_assignable25
  have v25 := as_valueOf25
  have f6 := as_valueOf27
  have f7 := as_type27
  have mK := as_methodKind
  have mE := as_methodElem
  have mI := as_methodImplements
  have k27 := as_kind27
  have k25 := as_kind25
  have e27 := as_elem27
  have i25 := as_implements25
  have n8 := as_isNil27 ⟨w.heap.size, 0, none⟩ t ((w.alloc (.cells #[.pointer (some t)] 106)).alloc (.cells #[.pointer (some ⟨2, 106, none⟩), .pointer (some ⟨w.heap.size, 0, none⟩), .int .u64 150] 120)) (by simp)
  have hlt : 0 < w.heap.size := by
    rcases Nat.eq_zero_or_pos w.heap.size with h0 | h
    · simp [World.cell?, h0] at hg
    · exact h
  have hg2 : ((w.alloc (.cells #[.pointer (some t)] 106)).alloc (.cells #[.pointer (some ⟨2, 106, none⟩), .pointer (some ⟨w.heap.size, 0, none⟩), .int .u64 150] 120)).cell? ⟨0, 0, none⟩ = some (.iface 135 (.agg #[.pointer (some ⟨2, 64, none⟩)])) := by
    rw [World.cell?_alloc_lt _ _ ⟨0, 0, none⟩ (by simp), World.cell?_alloc_lt _ _ ⟨0, 0, none⟩ hlt]; exact hg
  have htl : t.block < w.heap.size := by
    rcases Nat.lt_or_ge t.block w.heap.size with h | h
    · exact h
    · simp [World.cell?, Array.getElem?_eq_none h] at ht0
  have el := as_elemV27 ⟨w.heap.size, 0, none⟩ t (((w.alloc (.cells #[.pointer (some t)] 106)).alloc (.cells #[.pointer (some ⟨2, 106, none⟩), .pointer (some ⟨w.heap.size, 0, none⟩), .int .u64 150] 120)).alloc (.cells #[.pointer (some ⟨2, 106, none⟩), .pointer (some ⟨w.heap.size, 0, none⟩), .int .u64 150] 120)) (by rw [World.cell?_alloc_lt _ _ ⟨w.heap.size, 0, none⟩ (by simp; omega)]; simp)
  have st := as_set25 t ⟨w.heap.size + 1 + 1 + 1, 0, none⟩ e old ((((w.alloc (.cells #[.pointer (some t)] 106)).alloc (.cells #[.pointer (some ⟨2, 106, none⟩), .pointer (some ⟨w.heap.size, 0, none⟩), .int .u64 150] 120)).alloc (.cells #[.pointer (some ⟨2, 106, none⟩), .pointer (some ⟨w.heap.size, 0, none⟩), .int .u64 150] 120)).alloc (.cells #[.pointer (some e)] 104))
    (by rw [World.cell?_alloc_at _ _ _ _ (by simp)]; rfl)
    (by rw [World.cell?_alloc_lt _ _ t (by simp; omega), World.cell?_alloc_lt _ _ t (by simp; omega), World.cell?_alloc_lt _ _ t (by simp; omega), World.cell?_alloc_lt _ _ t htl]; exact ht0)
    (by rw [World.frozen?_alloc_old _ _ t (by simp; omega), World.frozen?_alloc_old _ _ t (by simp; omega), World.frozen?_alloc_old _ _ t (by simp; omega), World.frozen?_alloc_old _ _ t (Nat.ne_of_lt htl)]; exact hf0)
  go_enter Tryz.func79, Tryz.ntmps79
  go_wp2
  refine wp_loop_rounds 1 ?_
  rw [rounds_succ]
  go_wp2
  go_ret
  exact ⟨rfl, rfl⟩
end Go.Proofs.YtcdmdkgiabfbeaaGreatDoor

/-
  ior: what an operation answers, out of an error of package files.
-/
namespace Go.Proofs.YtcdmdkgiabfbeaaGreatDoor
open Go.RowKit

/-- errors.errorType holds the handle of 'error'. -/
def GlobOk (m : Mem) : Prop := ∃ c e fz, m 0 = some (.cells c e fz) ∧ c[0]? = some (.iface 135 (.agg #[.pointer (some ⟨2, 64, none⟩)]))
theorem GlobOk.le {m n : Mem} (h : GlobOk m) (k : m.le n) : GlobOk n := by
  obtain ⟨c, e, fz, h1, h2⟩ := h
  exact ⟨c, e, fz, k _ _ h1, h2⟩

set_option maxHeartbeats 400000 in
theorem ior_nil (w : World) (m : Mem) (hm : Has w m) :
    Calls Tryz.prog 32 #[.nilIface] w (Post w m fun v _ => v = .int .i64 0) := by
  have H := Lib.hid hm
  clear hm
  go_enter Tryz.func32, Tryz.ntmps32
  go_wp2_with (go_at_call 79; refine (as_nil _ _).mono ?_; rintro e w' ⟨rfl, rfl⟩)
  go_ret
  exact Post.mk _ (Mem.le_refl _) (H.out.keep _) ((Env.refl w).alloc _) rfl

set_option maxHeartbeats 400000 in
theorem ior_hit (b : Nat) (x : Int) (w : World) (m : Mem) (hm : Has w m) (hG : GlobOk m) (hb : m b = some (.cells #[.int .i64 x] 108 (0, 0))) :
    Calls Tryz.prog 32 #[.iface 104 (.pointer (some ⟨b, 0, none⟩))] w (Post w m fun v _ => v = .int .i64 x) := by
  obtain ⟨c, e, fz, hg, hc⟩ := hG
  have hne : m w.heap.size = none := hm.fresh (Nat.le_refl _)
  have h1 := hm.alloc (.cells #[.pointer none] 104)
  have k1 := Mem.le_set m (.cells #[.pointer none] 104) hne
  have g1 : (w.alloc (.cells #[.pointer none] 104)).cell? ⟨0, 0, none⟩ = some (.iface 135 (.agg #[.pointer (some ⟨2, 64, none⟩)])) := by
    rw [h1.cell (k1 _ _ hg)]; exact hc
  have t1 : (w.alloc (.cells #[.pointer none] 104)).cell? ⟨w.heap.size, 0, none⟩ = some (.pointer none) := by
    rw [h1.cell (Mem.set_same _ _ _)]; rfl
  have f1 : (w.alloc (.cells #[.pointer none] 104)).frozen? ⟨w.heap.size, 0, none⟩ = false := h1.froz (Mem.set_same _ _ _)
  have H := Lib.hid hm
  have HB := Lib.hid hb
  have HN := Lib.hid hne
  have H1 := Lib.hid h1
  have G1 := Lib.hid g1
  have T1 := Lib.hid t1
  have F1 := Lib.hid f1
  clear hm hb hne h1 g1 t1 f1 hg hc k1
  go_enter Tryz.func32, Tryz.ntmps32
  go_wp2_with fail
  refine (as_hit ⟨b, 0, none⟩ ⟨w.heap.size, 0, none⟩ (.pointer none) _ G1.out T1.out F1.out).mono ?_
  rintro ev w' ⟨rfl, hw⟩
  -- what is known behind it
  have a1 := H1.out.alloc (.cells #[.pointer (some ⟨w.heap.size, 0, none⟩)] 106)
  have a2 := a1.alloc (.cells #[.pointer (some ⟨2, 106, none⟩), .pointer (some ⟨(w.alloc (.cells #[.pointer none] 104)).heap.size, 0, none⟩), .int .u64 150] 120)
  have a3 := a2.alloc (.cells #[.pointer (some ⟨2, 106, none⟩), .pointer (some ⟨(w.alloc (.cells #[.pointer none] 104)).heap.size, 0, none⟩), .int .u64 150] 120)
  have a4 := a3.alloc (.cells #[.pointer (some ⟨b, 0, none⟩)] 104)
  have l1 := Mem.le_set _ (.cells #[.pointer (some ⟨w.heap.size, 0, none⟩)] 106) (H1.out.fresh (Nat.le_refl _))
  have l2 := Mem.le_set _ (.cells #[.pointer (some ⟨2, 106, none⟩), .pointer (some ⟨(w.alloc (.cells #[.pointer none] 104)).heap.size, 0, none⟩), .int .u64 150] 120) (a1.fresh (Nat.le_refl _))
  have l3 := Mem.le_set _ (.cells #[.pointer (some ⟨2, 106, none⟩), .pointer (some ⟨(w.alloc (.cells #[.pointer none] 104)).heap.size, 0, none⟩), .int .u64 150] 120) (a2.fresh (Nat.le_refl _))
  have l4 := Mem.le_set _ (.cells #[.pointer (some ⟨b, 0, none⟩)] 104) (a3.fresh (Nat.le_refl _))
  have a5 := (a4.le (Mem.le_trans (Mem.le_trans (Mem.le_trans l1 l2) l3) l4)).store (off := 0) (Mem.set_same _ _ _) (.pointer (some ⟨b, 0, none⟩))
  rw [← hw] at a5
  have c1 : w'.cell? ⟨w.heap.size, 0, none⟩ = some (.pointer (some ⟨b, 0, none⟩)) := by rw [a5.cell (Mem.set_same _ _ _)]; rfl
  have a6 : Has w' m := a5.le (by rw [Mem.set_set]; exact Mem.le_set _ _ HN.out)
  have c2 : w'.cell? ⟨b, 0, none⟩ = some (.int .i64 x) := by rw [a6.cell HB.out]; rfl
  have EN : Hid (Env w w') := Lib.hid (by rw [hw]; exact ((((((Env.refl w).alloc _).alloc _).alloc _).alloc _).alloc _).setCell _ _)
  have A6 := Lib.hid a6
  clear hw a1 a2 a3 a4 a5 a6 l1 l2 l3 l4
  go_wp2_with fail
  go_ret
  exact Post.mk _ (Mem.le_refl _) A6.out EN.out rfl

theorem ior_any (ev : Value) (x : Int) (w : World) (m : Mem) (hm : Has w m) (hG : GlobOk m) (he : ErrIs m ev x) :
    Calls Tryz.prog 32 #[ev] w (Post w m fun v _ => v = .int .i64 x) := by
  rcases he with ⟨rfl, rfl⟩ | ⟨_, b, rfl, hb⟩
  · exact ior_nil w m hm
  · exact ior_hit b x w m hm hG hb
end Go.Proofs.YtcdmdkgiabfbeaaGreatDoor

/-
  with: what is done with an open file.
-/
namespace Go.Proofs.YtcdmdkgiabfbeaaGreatDoor
open Go.RowKit

/-- The open file of a number. -/
def hndAt (O : List (Option Hnd)) (id : Int) : Option Hnd := if 1 ≤ id ∧ id ≤ O.length then (O[(id - 1).toNat]?).join else none

theorem hndAt_some {O : List (Option Hnd)} {id : Int} {h : Hnd} (e : hndAt O id = some h) : ∃ k : Nat, id = (k : Int) + 1 ∧ ∃ hk : k < O.length, O[k] = some h := by
  unfold hndAt at e
  split at e
  · rename_i hb
    refine ⟨(id - 1).toNat, by omega, by omega, ?_⟩
    rw [List.getElem?_eq_getElem (by omega)] at e
    simpa using e
  · cases e
theorem hndAt_ok {O : List (Option Hnd)} {k : Nat} (hk : k < O.length) : hndAt O ((k : Int) + 1) = O[k] := by
  unfold hndAt
  rw [if_pos (by omega), show ((k : Int) + 1 - 1).toNat = k from by omega, List.getElem?_eq_getElem hk]
  simp

/-- What a store's operation number n is told. -/
def G.now (g : G) : Fail3 := failAt g.fails (g.n + 1)
def G.tick (g : G) : G := { g with n := g.n + 1 }

/-- What with does with an open file: it answers x, and R holds of what is known then. -/
def Does (w1 : World) (R : Mem → Int → Prop) (e : Ending) (w2 : World) : Prop :=
  ∃ ev x m2, e = .returned ev ∧ Has w2 m2 ∧ Env w1 w2 ∧ ErrIs m2 ev x ∧ GlobOk m2 ∧ R m2 x
/-- What an operation answers. -/
def Ans (w : World) (R : Mem → Int → Prop) (e : Ending) (w2 : World) : Prop :=
  ∃ x m2, e = .returned (.int .i64 x) ∧ Has w2 m2 ∧ Env w w2 ∧ R m2 x

theorem begin_g (sb : Nat) (g : G) (w : World) (m : Mem) (hm : Has w m) (hr : SRep m sb g) (hn : g.n ≤ 999999) :
    Calls Tryz.prog 25 #[.pointer (some ⟨sb, 0, none⟩)] w
      (Post w (m.set sb (storeObj g.tick)) fun v m' => ∃ ev, v = .tuple #[failV g.now, ev] ∧ ErrIs m' ev g.now.2.1) := by
  refine (begin_any sb (.map (some g.mb)) g.fv g.ov g.n g.fails w m hm hr.store hr.fails hr.fl (by omega) (by omega)).mono fun e w' h => ?_
  exact h

theorem optNil (b : Bool) : (if b then Value.pointer none else Value.pointer none) = .pointer none := by cases b <;> rfl

set_option maxHeartbeats 2000000 in
theorem with_any (sb : Nat) (id : Int) (g : G) (fn : FuncId) (caps : Array Value) (w : World) (m : Mem) (hm : Has w m) (hr : SRep m sb g) (hG : GlobOk m) (hn : g.n ≤ 999999) (he : Enters fn) (R : Mem → Int → Prop)
    (hdo : g.now.2.1 = 0 → ∀ h, hndAt g.O id = some h → ∀ w1 m1, (m.set sb (storeObj g.tick)).le m1 → Has w1 m1 → Calls Tryz.prog fn (#[.pointer (some ⟨h.ob, 0, none⟩), failV g.now] ++ caps) w1 (Does w1 R))
    (hfail : g.now.2.1 ≠ 0 → ∀ m1, (m.set sb (storeObj g.tick)).le m1 → R m1 g.now.2.1)
    (hbad : g.now.2.1 = 0 → hndAt g.O id = none → ∀ m1, (m.set sb (storeObj g.tick)).le m1 → R m1 (-37)) :
    Calls Tryz.prog 34 #[.pointer (some ⟨sb, 0, none⟩), .int .i64 id, .func (.func fn) #[] caps] w (Ans w R) := by
  have r1 := hr.count
  have hG1 : GlobOk (m.set sb (storeObj g.tick)) := by
    obtain ⟨c, e, fz, h1, h2⟩ := hG
    have : (0 : Nat) ≠ sb := by
      intro e0
      rw [e0, hr.store] at h1
      simp only [storeObj, Option.some.injEq, Obj.cells.injEq] at h1
      rw [← h1.1] at h2
      simp at h2
    exact ⟨c, e, fz, by rw [Mem.set_ne _ _ this]; exact h1, h2⟩
  have BG := begin_g sb g w m hm hr hn
  have HBG := Lib.hid BG
  have R1 := Lib.hid r1
  have HG1 := Lib.hid hG1
  have HDO := Lib.hid hdo
  have HFA := Lib.hid hfail
  have HBA := Lib.hid hbad
  have HEN := Lib.hid he
  clear hm hr hG hn r1 hG1 BG hdo hfail hbad he
  go_enter Tryz.func34, Tryz.ntmps34
  go_wp2_with fail
  refine HBG.out.mono ?_
  rintro e w2 ⟨v, m2, rfl, l2, h2, n2, ev, rfl, hev⟩
  have L2 := Lib.hid l2
  have H2 := Lib.hid h2
  have N2 := Lib.hid n2
  have HEV := Lib.hid hev
  clear l2 h2 n2 hev
  obtain ⟨⟨f0, f1, f2⟩, hf⟩ : ∃ f, g.now = f := ⟨_, rfl⟩
  have R2 := Lib.hid (R1.out.le L2.out)
  have G2 := Lib.hid (HG1.out.le L2.out)
  have HFR := Lib.hid (H2.out.fresh (Nat.le_refl _))
  have HF := Lib.hid hf
  rw [hf] at HEV ⊢
  simp only [failV]
  clear hf
  by_cases h1 : f1 = 0
  · subst h1
    have hev : ev = .nilIface := by rcases HEV.out with ⟨_, h⟩ | ⟨h, _⟩; exact h; exact absurd rfl h
    subst hev
    obtain ⟨oa, oc, ho, hoc⟩ := R2.out.opens.lenV
    have ho' : g.ov = .slice oa g.O.length oc := ho
    have hlen : g.O.length ≤ 32 := R2.out.olen
    have c2 : w2.cell? ⟨sb, 2, none⟩ = some (.slice oa g.O.length oc) := by rw [H2.out.cell R2.out.store, ← ho']; rfl
    have l1 := H2.out.lt R2.out.store
    have HO := Lib.hid ho'
    have TAIL : ∀ w3, Has w3 m2 → Env w w3 → hndAt g.O id = none → Calls Tryz.prog 44 #[.int .i64 (-37)] w3 fun e w4 => ∃ ev, e = .returned ev ∧ (∃ b, ev = .iface 104 (.pointer (some ⟨b, 0, none⟩))) ∧ Calls Tryz.prog 32 #[ev] w4 (Ans w R) := by
      intro w3 h3 n3 hno
      refine (refuse_any (-37) _ _ h3 (by decide)).mono ?_
      rintro e w4 ⟨v, m4, rfl, l4, h4, n4, hv⟩
      refine ⟨v, rfl, ?_, ?_⟩
      · rcases hv with ⟨h, _⟩ | ⟨_, b, h, _⟩
        · cases h
        · exact ⟨b, h⟩
      · refine (ior_any _ _ _ _ h4 (G2.out.le l4) hv).mono ?_
        rintro e w5 ⟨v, m5, rfl, l5, h5, n5, rfl⟩
        exact ⟨-37, m5, rfl, h5, (n3.trans n4).trans n5, HBA.out (by rw [HF.out]) hno m5 (Mem.le_trans (Mem.le_trans L2.out l4) l5)⟩
    have HTAIL := Lib.hid TAIL
    clear ho ho' TAIL
    by_cases hb1 : id < 1
    · have hno := Lib.hid (show hndAt g.O id = none from by unfold hndAt; rw [if_neg (by omega)])
      go_wp2_with fail
      refine (HTAIL.out _ (H2.out.keep _) (N2.out.alloc _) hno.out).mono ?_
      rintro e w3 ⟨ev, rfl, ⟨b, rfl⟩, hc⟩
      have HC := Lib.hid hc
      clear hc
      go_wp2_with fail
      refine HC.out.mono ?_
      rintro e w4 ⟨x, m4, rfl, r⟩
      have RR := Lib.hid r
      clear r
      go_wp2_with fail
      go_ret
      exact ⟨x, m4, rfl, RR.out⟩
    · by_cases hb2 : (g.O.length : Int) < id
      · have hno := Lib.hid (show hndAt g.O id = none from by unfold hndAt; rw [if_neg (by omega)])
        go_wp2_with fail
        refine (HTAIL.out _ (H2.out.keep _) (N2.out.alloc _) hno.out).mono ?_
        rintro e w3 ⟨ev, rfl, ⟨b, rfl⟩, hc⟩
        have HC := Lib.hid hc
        clear hc
        go_wp2_with fail
        refine HC.out.mono ?_
        rintro e w4 ⟨x, m4, rfl, r⟩
        have RR := Lib.hid r
        clear r
        go_wp2_with fail
        go_ret
        exact ⟨x, m4, rfl, RR.out⟩
      · obtain ⟨k, hk⟩ : ∃ k : Nat, id = (k : Int) + 1 := ⟨(id - 1).toNat, by omega⟩
        subst hk
        have hlt : k < g.O.length := by omega
        obtain ⟨ob, hoa⟩ : ∃ ob, oa = some ⟨ob, 0, none⟩ := by
          have h1 : Row m2 g.ov 83 1 g.O.length (g.O.map hndV) := R2.out.opens
          rw [HO.out] at h1
          rcases h1.2 with ⟨_, h⟩ | ⟨gg, cap, cur, fz, h, _⟩
          · omega
          · simp only [Value.slice.injEq] at h; exact ⟨gg, h.1⟩
        subst hoa
        have hrow : Row m2 (.slice (some ⟨ob, 0, none⟩) g.O.length oc) 83 1 g.O.length (g.O.map hndV) := by
          have h1 : Row m2 g.ov 83 1 g.O.length (g.O.map hndV) := R2.out.opens
          rwa [HO.out] at h1
        have e0 : w2.cell? ⟨ob, k, none⟩ = some (hndV g.O[k]) := by
          rw [hrow.cell H2.out (by omega)]
          simp [hlt]
        have l2 : ob < w2.heap.size := by
          obtain ⟨cur, fz, hc⟩ := hrow.ty rfl
          exact H2.out.lt hc
        have HW := Lib.hid (hndAt_ok hlt)
        clear hrow
        cases hx : g.O[k] with
        | none =>
          rw [hx] at e0 HW
          clear hx
          simp only [hndV] at e0
          go_wp2_with fail
          refine (HTAIL.out _ (H2.out.keep _) (N2.out.alloc _) HW.out).mono ?_
          rintro e w3 ⟨ev, rfl, ⟨b, rfl⟩, hc⟩
          have HC := Lib.hid hc
          clear hc
          go_wp2_with fail
          refine HC.out.mono ?_
          rintro e w4 ⟨x, m4, rfl, r⟩
          have RR := Lib.hid r
          clear r
          go_wp2_with fail
          go_ret
          exact ⟨x, m4, rfl, RR.out⟩
        | some h =>
          rw [hx] at e0 HW
          have HGK := Lib.hid hx
          clear hx
          simp only [hndV] at e0
          go_wp2_with fail
          refine wp_opaque w _ (H2.out.alloc (.cells #[.int .i64 f0, .int .i64 0, .int .i64 f2] 47)) (N2.out.alloc _) ?_
          intro w3 h3m h3e
          have lm := Mem.le_set m2 (.cells #[.int .i64 f0, .int .i64 0, .int .i64 f2] 47) HFR.out
          have s0 : w3.cell? ⟨w2.heap.size, 0, none⟩ = some (.int .i64 f0) := by rw [h3m.cell (Mem.set_same _ _ _)]; rfl
          have s1 : w3.cell? ⟨w2.heap.size, 1, none⟩ = some (.int .i64 0) := by rw [h3m.cell (Mem.set_same _ _ _)]; rfl
          have s2 : w3.cell? ⟨w2.heap.size, 2, none⟩ = some (.int .i64 f2) := by rw [h3m.cell (Mem.set_same _ _ _)]; rfl
          have s3 : w3.cell? ⟨sb, 2, none⟩ = some (.slice (some ⟨ob, 0, none⟩) g.O.length oc) := by
            have := R2.out.store
            rw [h3m.cell (lm _ _ this), ← HO.out]; rfl
          have s4 : w3.cell? ⟨ob, k, none⟩ = some (.pointer (some ⟨h.ob, 0, none⟩)) := by
            have h1 : Row m2 g.ov 83 1 g.O.length (g.O.map hndV) := R2.out.opens
            rw [HO.out] at h1
            rw [(h1.le lm).cell h3m (by omega)]
            have := HGK.out
            simp [hlt, this, hndV]
          have H3 := Lib.hid h3m
          have N3 := Lib.hid h3e
          have LM := Lib.hid lm
          have dd := HDO.out (by rw [HF.out]) h HW.out
          rw [HF.out] at dd
          have DO := Lib.hid dd
          clear dd
          have he := HEN.out
          unfold Enters at he
          have wk : IntKind.i64.wrap (k : Int) = (k : Int) := by simp [IntKind.wrap, IntKind.signed, IntKind.bits]; omega
          have bk : (k : Int) < (g.O.length : Int) := by omega
          generalize w2.heap.size = tb at *
          clear h3m h3e lm c2 e0 l1 l2
          refine wp_region_K 10 (fun w' => w'.cell? ⟨tb, 0, none⟩ = some (.int .i64 f0) ∧ w'.cell? ⟨tb, 1, none⟩ = some (.int .i64 0) ∧ w'.cell? ⟨tb, 2, none⟩ = some (.int .i64 f2) ∧
            w'.cell? ⟨sb, 2, none⟩ = some (.slice (some ⟨ob, 0, none⟩) g.O.length oc) ∧ w'.cell? ⟨ob, k, none⟩ = some (.pointer (some ⟨h.ob, 0, none⟩))) (by kernel_rfl) ?_
          have hS : (fun w' : World => w'.cell? ⟨tb, 0, none⟩ = some (.int .i64 f0) ∧ w'.cell? ⟨tb, 1, none⟩ = some (.int .i64 0) ∧ w'.cell? ⟨tb, 2, none⟩ = some (.int .i64 f2) ∧
            w'.cell? ⟨sb, 2, none⟩ = some (.slice (some ⟨ob, 0, none⟩) g.O.length oc) ∧ w'.cell? ⟨ob, k, none⟩ = some (.pointer (some ⟨h.ob, 0, none⟩))) w3.drew := ⟨s0, s1, s2, s3, s4⟩
          refine wpAnyK_take (i := 0) (v := ?_) rfl (by kernel_rfl) (by kernel_rfl) (by kernel_rfl) (by kernel_rfl) (fun _ _ _ h => h) (Or.inl ⟨by rfl, ?_⟩) hS ?_
          rotate_left
          · intro w0 hS0; obtain ⟨q0, q1, q2, q3, q4⟩ := hS0; go_simp; try with_reducible rfl
          simp only [Act.put, List.setIfInBounds_toArray, List.set_cons_zero, List.set_cons_succ, List.getElem_toArray, List.getElem_cons_succ, List.getElem_cons_zero]
          refine wpAnyK_take (i := 1) (v := ?_) rfl (by kernel_rfl) (by kernel_rfl) (by kernel_rfl) (by kernel_rfl) (fun _ _ _ h => h) (Or.inl ⟨by rfl, ?_⟩) hS ?_
          rotate_left
          · intro w0 hS0; obtain ⟨q0, q1, q2, q3, q4⟩ := hS0; go_simp; try with_reducible rfl
          simp only [Act.put, List.setIfInBounds_toArray, List.set_cons_zero, List.set_cons_succ, List.getElem_toArray, List.getElem_cons_succ, List.getElem_cons_zero]
          refine wpAnyK_take (i := 2) (v := ?_) rfl (by kernel_rfl) (by kernel_rfl) (by kernel_rfl) (by kernel_rfl) (fun _ _ _ h => h) (Or.inl ⟨by rfl, ?_⟩) hS ?_
          rotate_left
          · intro w0 hS0; obtain ⟨q0, q1, q2, q3, q4⟩ := hS0; go_simp; try with_reducible rfl
          simp only [Act.put, List.setIfInBounds_toArray, List.set_cons_zero, List.set_cons_succ, List.getElem_toArray, List.getElem_cons_succ, List.getElem_cons_zero]
          refine wpAnyK_take (i := 3) (v := ?_) rfl (by kernel_rfl) (by kernel_rfl) (by kernel_rfl) (by kernel_rfl) (fun _ _ _ h => h) (Or.inl ⟨by rfl, ?_⟩) hS ?_
          rotate_left
          · intro w0 hS0; obtain ⟨q0, q1, q2, q3, q4⟩ := hS0; go_simp; try with_reducible rfl
          simp only [Act.put, List.setIfInBounds_toArray, List.set_cons_zero, List.set_cons_succ, List.getElem_toArray, List.getElem_cons_succ, List.getElem_cons_zero]
          refine wpAnyK_take (i := 4) (v := ?_) rfl (by kernel_rfl) (by kernel_rfl) (by kernel_rfl) (by kernel_rfl) (fun _ _ _ h => h) (Or.inl ⟨by rfl, ?_⟩) hS ?_
          rotate_left
          · intro w0 hS0; obtain ⟨q0, q1, q2, q3, q4⟩ := hS0; go_simp; try with_reducible rfl
          simp only [Act.put, List.setIfInBounds_toArray, List.set_cons_zero, List.set_cons_succ, List.getElem_toArray, List.getElem_cons_succ, List.getElem_cons_zero]
          refine wpAnyK_take (i := 5) (v := ?_) rfl (by kernel_rfl) (by kernel_rfl) (by kernel_rfl) (by kernel_rfl) (fun _ _ _ h => h) (Or.inl ⟨by rfl, ?_⟩) hS ?_
          rotate_left
          · intro w0 hS0; obtain ⟨q0, q1, q2, q3, q4⟩ := hS0; go_simp; try with_reducible rfl
          simp only [Act.put, List.setIfInBounds_toArray, List.set_cons_zero, List.set_cons_succ, List.getElem_toArray, List.getElem_cons_succ, List.getElem_cons_zero]
          refine wpAnyK_take (i := 6) (v := ?_) rfl (by kernel_rfl) (by kernel_rfl) (by kernel_rfl) (by kernel_rfl) (fun _ _ _ h => h) (Or.inl ⟨by rfl, ?_⟩) hS ?_
          rotate_left
          · intro w0 hS0; obtain ⟨q0, q1, q2, q3, q4⟩ := hS0; go_simp; try with_reducible rfl
          simp only [Act.put, List.setIfInBounds_toArray, List.set_cons_zero, List.set_cons_succ, List.getElem_toArray, List.getElem_cons_succ, List.getElem_cons_zero]
          refine wpAnyK_take (i := 7) (v := ?_) rfl (by kernel_rfl) (by kernel_rfl) (by kernel_rfl) (by kernel_rfl) (fun _ _ _ h => h) (Or.inl ⟨by rfl, ?_⟩) hS ?_
          rotate_left
          · intro w0 hS0; obtain ⟨q0, q1, q2, q3, q4⟩ := hS0; go_simp; try with_reducible rfl
          simp only [Act.put, List.setIfInBounds_toArray, List.set_cons_zero, List.set_cons_succ, List.getElem_toArray, List.getElem_cons_succ, List.getElem_cons_zero]
          refine wpAnyK_take (i := 8) (v := ?_) rfl (by kernel_rfl) (by kernel_rfl) (by kernel_rfl) (by kernel_rfl) (fun _ _ _ h => h) (Or.inl ⟨by rfl, ?_⟩) hS ?_
          rotate_left
          · intro w0 hS0; obtain ⟨q0, q1, q2, q3, q4⟩ := hS0; go_simp; try with_reducible rfl
          simp only [Act.put, List.setIfInBounds_toArray, List.set_cons_zero, List.set_cons_succ, List.getElem_toArray, List.getElem_cons_succ, List.getElem_cons_zero]
          refine wpAnyK_take (i := 9) (v := ?_) rfl (by kernel_rfl) (by kernel_rfl) (by kernel_rfl) (by kernel_rfl) (fun _ _ _ h => h) (Or.inl ⟨by rfl, ?_⟩) hS ?_
          rotate_left
          · intro w0 hS0; obtain ⟨q0, q1, q2, q3, q4⟩ := hS0; go_simp; try with_reducible rfl
          simp only [Act.put, List.setIfInBounds_toArray, List.set_cons_zero, List.set_cons_succ, List.getElem_toArray, List.getElem_cons_succ, List.getElem_cons_zero]
          refine wpAnyK_one (i := 10) rfl (by kernel_rfl) rfl ?_
          go_simp
          refine (DO.out w3.drew _ (Mem.le_trans L2.out LM.out) H3.out.drew).mono ?_
          rintro e w4 ⟨ev, x, m4, rfl, h4, n4, hev, hg4, hr4⟩
          have H4 := Lib.hid h4
          have N4 := Lib.hid n4
          have EV := Lib.hid hev
          have G4 := Lib.hid hg4
          have R4 := Lib.hid hr4
          clear h4 n4 hev hg4 hr4 hS
          refine wpAnyK_one (i := 11) rfl (by kernel_rfl) rfl ?_
          go_simp
          refine wpAnyK_done (by kernel_rfl) ?_ _
          go_wp2_with fail
          refine (ior_any _ _ _ _ H4.out G4.out EV.out).mono ?_
          rintro e w5 ⟨v, m5, rfl, l5, h5, n5, rfl⟩
          have L5 := Lib.hid l5
          have H5 := Lib.hid h5
          have N5 := Lib.hid n5
          clear l5 h5 n5
          go_wp2_with fail
          go_ret
          exact ⟨x, m4, rfl, H5.out.le L5.out, (N3.out.drew.trans N4.out).trans N5.out, R4.out⟩
  · obtain ⟨b, hev, hb⟩ : ∃ b, ev = .iface 104 (.pointer (some ⟨b, 0, none⟩)) ∧ m2 b = some (.cells #[.int .i64 f1] 108 (0, 0)) := by
      rcases HEV.out with ⟨h, _⟩ | ⟨_, h⟩; exact absurd h h1; exact h
    subst hev
    have HB := Lib.hid hb
    have H1 := Lib.hid h1
    clear hb h1
    go_wp2_with fail
    refine (ior_any _ _ _ _ (H2.out.keep _) G2.out HEV.out).mono ?_
    rintro e w3 ⟨v, m3, rfl, l3, h3, n3, rfl⟩
    have L3 := Lib.hid l3
    have H3 := Lib.hid h3
    have N3 := Lib.hid n3
    clear l3 h3 n3
    go_wp2_with fail
    go_ret
    refine ⟨f1, m3, rfl, H3.out, (N2.out.alloc _).trans N3.out, ?_⟩
    have := HFA.out
    rw [HF.out] at this
    exact this H1.out m3 (Mem.le_trans L2.out L3.out)
end Go.Proofs.YtcdmdkgiabfbeaaGreatDoor
