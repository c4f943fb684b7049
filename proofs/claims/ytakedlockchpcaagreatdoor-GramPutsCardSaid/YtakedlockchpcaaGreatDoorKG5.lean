/-
  A part of what the last of these texts needs; by itself it proves no statement.
-/
import Derived.Test.YtakedlockchpcaaGreatDoorKG4
namespace Go.Proofs.YtakedlockchpcaaGreatDoor
open Go.RowKit Go.Extern.Stop Go.Stop Go.Extern
theorem i_typeOf (v : Value) (w : World) : (ReflectliteType.typeOf #[.iface 86 v]).run Tryz.prog w = .ok (.iface 254 (.agg #[.pointer (some ⟨1, 86, none⟩)])) w := by kernel_rfl
theorem i_methodComparable (h : Value) (w : World) : (Go.method 403 254 (.agg #[h]) "Comparable").run Tryz.prog w = .ok (191, .agg #[h]) w := by kernel_rfl
theorem i_comparable (w : World) : ((ReflectliteType.method fun t => do Rtype.noPackHeld "Comparable" t; pure (.bool (← typeInfo t).comparable)) #[.agg #[.pointer (some ⟨1, 86, none⟩)]]).run Tryz.prog w = .ok (.bool true) w := by kernel_rfl
theorem i_methodUnwrap (b o : Nat) (w : World) : (Go.method 403 171 (.pointer (some ⟨b, o, none⟩)) "Unwrap").run Tryz.prog w = .ok (166, .pointer (some ⟨b, o, none⟩)) w := by kernel_rfl
theorem i_noIs1 (v : Value) (xT : TypeId) (w : World) : (Instr.typeAssert (.iface 171 v) xT 265 true).run Tryz.prog w = .ok (.tuple #[.nilIface, .bool false]) w := run_typeAssert_lacksB Tryz.underlying265 (by kernel_rfl) (by kernel_rfl) v xT w
theorem i_noIs2 (v : Value) (xT : TypeId) (w : World) : (Instr.typeAssert (.iface 86 v) xT 265 true).run Tryz.prog w = .ok (.tuple #[.nilIface, .bool false]) w := run_typeAssert_lacksB Tryz.underlying265 (by kernel_rfl) (by kernel_rfl) v xT w
theorem i_un1 (v : Value) (xT : TypeId) (w : World) : (Instr.typeAssert (.iface 171 v) xT 261 true).run Tryz.prog w = .ok (.tuple #[.iface 171 v, .bool true]) w := run_typeAssert_hasB Tryz.underlying261 (by kernel_rfl) v xT w
theorem i_un2 (v : Value) (xT : TypeId) (w : World) : (Instr.typeAssert (.iface 86 v) xT 261 true).run Tryz.prog w = .ok (.tuple #[.nilIface, .bool false]) w := run_typeAssert_lacksB Tryz.underlying261 (by kernel_rfl) (by kernel_rfl) v xT w
theorem i_uns2 (v : Value) (xT : TypeId) (w : World) : (Instr.typeAssert (.iface 86 v) xT 262 true).run Tryz.prog w = .ok (.tuple #[.nilIface, .bool false]) w := run_typeAssert_lacksB Tryz.underlying262 (by kernel_rfl) (by kernel_rfl) v xT w
theorem i_ne (x y : Value) (w : World) : (binOp .eql 70 (.iface 171 x) (.iface 86 y)).run Tryz.prog w = .ok (.bool false) w := run_eql_iface_types _ _ x y Tryz.underlying70 (by decide) w
theorem i_info : ∃ i, Tryz.prog.info? 86 = some i ∧ i.comparable = true := by
  have h : (Tryz.prog.info? 86).map (·.comparable) = some true := by kernel_rfl
  exact Option.map_eq_some_iff.1 h
theorem i_eq (n m : Int) (w : World) : (binOp .eql 70 (.iface 86 (.int .i64 n)) (.iface 86 (.int .i64 m))).run Tryz.prog w = .ok (.bool (n == m)) w := by
  obtain ⟨i, hi, hc⟩ := i_info
  have h : ∀ d : Nat, (Op.equalIn (d + 2) 70 (.iface 86 (.int .i64 n)) (.iface 86 (.int .i64 m))).run Tryz.prog w = .ok (n == m) w := fun d => by
    rw [Op.equalIn]
    simp [run_underlying Tryz.underlying70, typeInfo, hi, hc, Op.equalIn, run_underlying Tryz.underlying86]
  simp only [binOp]
  simp [Op.equal, Op.maxDepth, h 9998]
theorem unwrap_hit (b o : Nat) (n : Int) (w : World) (h : w.cell? ⟨b, o, none⟩ = some (.int .i64 n)) : Calls Tryz.prog 166 #[.pointer (some ⟨b, o, none⟩)] w fun e w' => e = .returned (.iface 86 (.int .i64 n)) ∧ w' = w := by
  go_enter Tryz.func166, Tryz.ntmps166
  go_wp2
  go_ret
  exact ⟨rfl, rfl⟩
set_option maxHeartbeats 4000000 in
theorem is_hit (b o : Nat) (n m : Int) (w : World) (h : w.cell? ⟨b, o, none⟩ = some (.int .i64 n)) : Calls Tryz.prog 134 #[.iface 171 (.pointer (some ⟨b, o, none⟩)), .iface 86 (.int .i64 m), .bool true] w fun e w' => e = .returned (.bool (n == m)) ∧ w' = w := by
  have a1 := i_noIs1
  have a2 := i_noIs2
  have a3 := i_un1
  have a4 := i_un2
  have a5 := i_uns2
  have a6 := i_ne
  have a7 := i_eq
  have a8 := i_methodUnwrap
  cases hnm : (n == m) with
  | true =>
    go_enter Tryz.func134, Tryz.ntmps134
    go_wp2
    refine wp_loop_rounds 2 ?_
    rw [rounds_succ]
    go_wp2_with (go_at_call 166; refine (unwrap_hit b o n _ h).mono ?_; rintro e w' ⟨rfl, rfl⟩)
    rw [rounds_succ]
    go_wp2
    go_ret
    exact ⟨rfl, rfl⟩
  | false =>
    go_enter Tryz.func134, Tryz.ntmps134
    go_wp2
    refine wp_loop_rounds 2 ?_
    rw [rounds_succ]
    go_wp2_with (go_at_call 166; refine (unwrap_hit b o n _ h).mono ?_; rintro e w' ⟨rfl, rfl⟩)
    rw [rounds_succ]
    go_wp2
    go_ret
    exact ⟨rfl, rfl⟩
theorem i_callComparable (w : World) : (callFunc 191 #[.agg #[.pointer (some ⟨1, 86, none⟩)]]).run Tryz.prog w = .ok (.value (.bool true)) w := by
  have h := @run_callFunc_extern Tryz.prog 191 _ (ReflectliteType.method fun t => do Rtype.noPackHeld "Comparable" t; pure (.bool (← typeInfo t).comparable)) Tryz.func191 (by kernel_rfl) (by kernel_rfl) (by kernel_rfl) (by kernel_rfl)
  rw [h]
  have h2 := i_comparable w
  rw [h2]
  rfl
set_option maxHeartbeats 4000000 in
theorem Is_hit (b o : Nat) (n m : Int) (w : World) (h : w.cell? ⟨b, o, none⟩ = some (.int .i64 n)) : Calls Tryz.prog 100 #[.iface 171 (.pointer (some ⟨b, o, none⟩)), .iface 86 (.int .i64 m)] w fun e w' => e = .returned (.bool (n == m)) ∧ w' = w := by
  have h10 := @run_callFunc_extern Tryz.prog 133 _ ReflectliteType.typeOf Tryz.func133 (by kernel_rfl) (by kernel_rfl) (by kernel_rfl) (by kernel_rfl)
  have b1 := i_typeOf
  have b2 := i_methodComparable
  have b3 := i_callComparable
  go_enter Tryz.func100, Tryz.ntmps100
  go_wp2_with (go_at_call 134; refine (is_hit b o n m _ h).mono ?_; rintro e w' ⟨rfl, rfl⟩)
  go_ret
  exact ⟨rfl, rfl⟩
end Go.Proofs.YtakedlockchpcaaGreatDoor
namespace Go.Proofs.YtakedlockchpcaaGreatDoor
open Go.RowKit
noncomputable section
attribute [local irreducible] T.put T.set
def handle : Value := .iface 254 (.agg #[.pointer (some ⟨1, 70, none⟩)])
def hOk (Hp : H) : Bool := match Hp.h.get 0 with
  | some (.glob b0 v) => match v with
    | .iface r (.agg a) => match a.toList with
      | [.pointer (some ⟨B, o, none⟩)] => Nat.beq b0 0 && Nat.beq r 254 && Nat.beq B 1 && Nat.beq o 70
      | _ => false
    | _ => false
  | _ => false
theorem hOk_ok {Hp : H} (h : hOk Hp = true) : Hp.h.get 0 = some (.glob 0 handle) := by
  unfold hOk at h
  split at h
  · rename_i b0 v hg
    split at h
    · rename_i r a
      split at h
      · rename_i B o ha
        simp only [Bool.and_eq_true] at h
        obtain ⟨⟨⟨h1, h2⟩, h3⟩, h4⟩ := h
        rw [hg, Nat.eq_of_beq_eq_true h1, Nat.eq_of_beq_eq_true h2]
        have : a = #[.pointer (some ⟨B, o, none⟩)] := by apply Array.ext'; simpa using ha
        rw [this, Nat.eq_of_beq_eq_true h3, Nat.eq_of_beq_eq_true h4]
        rfl
      · cases h
    · cases h
  · cases h
def asX (vs : List V) (Hp : H) : Option (V × H) := match vs with
  | [.ifc t (.ptr k off), .ifc t2 (.ptr k2 off2)] => match Nat.beq t 171, Nat.beq t2 173, hOk Hp, Hp.h.get k2 with
    | true, true, true, some (.cells c E) => match c.get off2 with
      | some _ => some (.bool true, Hp.upd k2 (.cells (c.set off2 (.ptr k off)) E))
      | none => none
    | _, _, _, _ => none
  | _ => none
def isX (vs : List V) (Hp : H) : Option (V × H) := match vs with
  | [.ifc t (.ptr k off), .ifc t2 (.int .i64 m)] => match Nat.beq t 171, Nat.beq t2 86, rdX (Hp.h.get k) with
    | true, true, some c => match c.get off with
      | some (.int .i64 n) => some (.bool (n == m), Hp)
      | _ => none
    | _, _, _ => none
  | _ => none
def doorPr : PrimF := fun f vs Hp => match Nat.beq f 99 with
  | true => asX vs Hp
  | false => match Nat.beq f 100 with
    | true => isX vs Hp
    | false => none
theorem FPost_self {bs : Bs} {Hp : H} {M F : List (Nat × Obj)} {v : V} {v' : Value} (hm : HCov bs Hp M) (hv : RV bs v v') : FPost bs Hp M F v Hp v' (M ++ F) :=
  ⟨[], M, rfl, by simpa using hv, by simpa using hm, rfl, fun _ h => h, fun W B _ h => by simpa using h⟩
theorem setCell_row {W : World} {b off : Nat} {v : Value} {cs : Array Value} {E : TypeId} {fr : Nat × Nat} (h : W.heap[b]? = some (.cells cs E fr)) : W.setCell ⟨b, off, none⟩ v = W.setRow b (cs.setIfInBounds off v) := by
  unfold World.setCell World.setRow
  congr 1
  apply Array.ext_getElem?
  intro i
  rw [Array.getElem?_modify, Array.getElem?_modify]
  by_cases e : b = i
  · subst e; rw [if_pos rfl, if_pos rfl, h]; simp
  · rw [if_neg e, if_neg e]
theorem as_ok {Hp : H} {vs : List V} {v : V} {H2 : H} (h : asX vs Hp = some (v, H2)) : Ext Hp H2 ∧ ∀ bs M F vs', HCov bs Hp M → RVs bs vs vs' → Fn Tryz.prog 99 vs' (M ++ F) (FPost bs Hp M F v H2) := by
  unfold asX at h
  split at h
  · rename_i t k off t2 k2 off2
    split at h
    · rename_i c E g1 g2 g3 g4
      split at h
      · rename_i old g5
        cases h
        refine ⟨.upd _ _ _, fun bs M F vs' hm hvs g w hmem => ?_⟩
        obtain rfl := Nat.eq_of_beq_eq_true g1
        obtain rfl := Nat.eq_of_beq_eq_true g2
        cases hvs with
        | cons h1 hvs => cases hvs with
          | cons h2 hvs => cases hvs with
            | nil =>
              cases h1 with
              | ifc _ h1 => cases h2 with
                | ifc _ h2 =>
                  obtain ⟨b, base, av, rfl, hk⟩ := h1.ptr_inv
                  obtain ⟨b2, base2, av2, rfl, hk2⟩ := h2.ptr_inv
                  obtain ⟨b', base', av', i, o', a1, a2, a3⟩ := hm.at_ k2 _ g4
                  rw [hk2] at a1; cases a1
                  have a4 := a3
                  obtain ⟨cs, rfl, a5, a6⟩ := a4
                  obtain ⟨a7, old', a8, _⟩ := a6 off2 _ g5
                  obtain ⟨b0, base0, av0, i0, o0, c1, c2, rfl, cs0, E0, fr0, rfl, c3⟩ := hm.at_ 0 _ (hOk_ok g3)
                  have hi2 : (M ++ F)[i]? = some (b2, .cells cs E (0, 0)) := by rw [List.getElem?_append_left (List.getElem?_eq_some_iff.1 a2).1]; exact a2
                  have hi0 : (M ++ F)[i0]? = some (0, .cells cs0 E0 fr0) := by rw [List.getElem?_append_left (List.getElem?_eq_some_iff.1 c2).1]; exact c2
                  have hw2 := hmem.at_ hi2
                  have hw0 := hmem.at_ hi0
                  have hg : w.cell? ⟨0, 0, none⟩ = some handle := by rw [cell_of_row w _ 0 cs0 E0 fr0 hw0]; exact c3
                  have ht : w.cell? ⟨b2, base2 + off2, none⟩ = some old' := by rw [cell_of_row w b2 (base2 + off2) cs E (0, 0) hw2]; exact a8
                  have hf : w.frozen? ⟨b2, base2 + off2, none⟩ = false := by
                    simp [World.frozen?, hw2]
                  have hlt : b2 < w.heap.size := hmem.lt _ (List.mem_of_getElem? hi2)
                  refine (as_hit ⟨b, base + off, none⟩ ⟨b2, base2 + off2, none⟩ old' w hg ht hf).mono fun e w' ⟨he, hw'⟩ => ?_
                  have hm4 := (((hmem.alloc (.cells #[.pointer (some ⟨b2, base2 + off2, none⟩)] 173)).alloc (.cells #[.pointer (some ⟨1, 173, none⟩), .pointer (some ⟨w.heap.size, 0, none⟩), .int .u64 150] 236)).alloc (.cells #[.pointer (some ⟨1, 173, none⟩), .pointer (some ⟨w.heap.size, 0, none⟩), .int .u64 150] 236)).alloc (.cells #[.pointer (some ⟨b, base + off, none⟩)] 171)
                  have hm5 : Mem g (M ++ F) _ := hm4.sublist ((((List.sublist_cons_self _ _).trans (List.sublist_cons_self _ _)).trans (List.sublist_cons_self _ _)).trans (List.sublist_cons_self _ _))
                  have hset := hm5.setRow hi2 (cs.setIfInBounds (base2 + off2) (.pointer (some ⟨b, base + off, none⟩)))
                  have hL : (M ++ F).set i (b2, .cells (cs.setIfInBounds (base2 + off2) (.pointer (some ⟨b, base + off, none⟩))) E (0, 0)) = M.set i (b2, .cells (cs.setIfInBounds (base2 + off2) (.pointer (some ⟨b, base + off, none⟩))) E (0, 0)) ++ F := List.set_append_left _ _ (List.getElem?_eq_some_iff.1 a2).1
                  have hRO : RO bs b2 base2 av2 (.cells (c.set off2 (.ptr k off)) E) (.cells (cs.setIfInBounds (base2 + off2) (.pointer (some ⟨b, base + off, none⟩))) E (0, 0)) := by
                    refine ⟨_, rfl, by rw [Array.size_setIfInBounds]; exact a5, fun j u hj => ?_⟩
                    rcases T.get_set hj with ⟨rfl, rfl⟩ | ⟨hne, hj⟩
                    · refine ⟨a7, .pointer (some ⟨b, base + off, none⟩), ?_, .ptr hk⟩
                      have : base2 + j < cs.size := by omega
                      simp [this]
                    · obtain ⟨q1, q2, q3, q4⟩ := a6 j u hj
                      refine ⟨q1, q2, ?_, q4⟩
                      rw [Array.getElem?_setIfInBounds_ne (by omega)]; exact q3
                  have hnod : ((M ++ F).map Prod.fst).Nodup := hmem.nodup
                  have hpost := Post_upd (bs := bs) (s := noS) (Hp := ⟨Hp.h, Hp.n, Hp.log, []⟩) (M := M) (F := F) (σ := ⟨[], [], M ++ F⟩) (s2 := noS) (k := k2) (ob := .cells c E) (σ' := ⟨[], [], (M ++ F).set i (b2, .cells (cs.setIfInBounds (base2 + off2) (.pointer (some ⟨b, base + off, none⟩))) E (0, 0))⟩) ⟨covS_none, rfl, ⟨hm.n, hm.at_, hm.inj⟩, rfl⟩ hnod g4 hk2 a2 hRO covS_none rfl rfl
                  obtain ⟨r, M', f1, f2, f3, f4, f5, f6⟩ := hpost
                  refine ⟨.bool true, _, he, ?_, r, M', f2, .bool true, ⟨f4.n, f4.at_, f4.inj⟩, rfl, f5, f6⟩
                  rw [hw']
                  rw [setCell_row (hm5.at_ hi2)]
                  exact hset
      · cases h
    · cases h
  · cases h
theorem is_ok {Hp : H} {vs : List V} {v : V} {H2 : H} (h : isX vs Hp = some (v, H2)) : Ext Hp H2 ∧ ∀ bs M F vs', HCov bs Hp M → RVs bs vs vs' → Fn Tryz.prog 100 vs' (M ++ F) (FPost bs Hp M F v H2) := by
  unfold isX at h
  split at h
  · rename_i t k off t2 m
    split at h
    · rename_i c g1 g2 g3
      split at h
      · rename_i n g5
        cases h
        refine ⟨.refl _, fun bs M F vs' hm hvs g w hmem => ?_⟩
        obtain rfl := Nat.eq_of_beq_eq_true g1
        obtain rfl := Nat.eq_of_beq_eq_true g2
        cases hvs with
        | cons h1 hvs => cases hvs with
          | cons h2 hvs => cases hvs with
            | nil =>
              cases h1 with
              | ifc _ h1 => cases h2 with
                | ifc _ h2 =>
                  cases h2
                  obtain ⟨b, base, av, rfl, hk⟩ := h1.ptr_inv
                  obtain ⟨ob, hob, hrd⟩ := rdX_ok (bs := bs) (b := b) (base := base) (av := av) g3
                  obtain ⟨b', base', av', i, o', a1, a2, a3⟩ := hm.at_ k _ hob
                  rw [hk] at a1; cases a1
                  obtain ⟨cs, E, fr, rfl, a5, a6⟩ := hrd a3
                  obtain ⟨a7, n', a8, a9⟩ := a6 off _ g5
                  cases a9
                  have hi2 : (M ++ F)[i]? = some (b, .cells cs E fr) := by rw [List.getElem?_append_left (List.getElem?_eq_some_iff.1 a2).1]; exact a2
                  have ht : w.cell? ⟨b, base + off, none⟩ = some (.int .i64 n) := by rw [cell_of_row w b (base + off) cs E fr (hmem.at_ hi2)]; exact a8
                  refine (Is_hit b (base + off) n m w ht).mono fun e w' ⟨he, hw'⟩ => ?_
                  subst hw'
                  exact ⟨_, _, he, hmem, FPost_self hm (.bool _)⟩
      · cases h
    · cases h
  · cases h
theorem doorPr_ok : PrimOk Tryz.prog doorPr := by
  refine ⟨fun f vs Hp v H2 h => ?_, fun f vs Hp v H2 h => ?_, fun f vs Hp v H2 h bs M F vs' hm hvs => ?_⟩
  · unfold doorPr at h
    split at h
    · exact (as_ok h).1
    · split at h
      · exact (is_ok h).1
      · cases h
  · unfold doorPr at h
    split at h
    · rename_i e; rw [Nat.eq_of_beq_eq_true e]; infer_instance
    · split at h
      · rename_i e; rw [Nat.eq_of_beq_eq_true e]; infer_instance
      · cases h
  · unfold doorPr at h
    split at h
    · rename_i e; rw [Nat.eq_of_beq_eq_true e]; exact (as_ok h).2 bs M F vs' hm hvs
    · split at h
      · rename_i e; rw [Nat.eq_of_beq_eq_true e]; exact (is_ok h).2 bs M F vs' hm hvs
      · cases h
def doorH : H := ⟨(T.e).set 0 (.glob 0 handle), 1, [], []⟩
theorem doorH_cov {cs : Array Value} {E : TypeId} {fr : Nat × Nat} (h : cs[0]? = some handle) : HCov [(0, 0, 0)] doorH [(0, .cells cs E fr)] := by
  have key : ∀ {k : Nat} {o : O}, doorH.h.get k = some o → k = 0 ∧ o = .glob 0 handle := fun {k o} hk => by
    rcases T.get_set hk with ⟨h1, h2⟩ | ⟨_, h2⟩
    · exact ⟨h1, h2.symm⟩
    · cases h2
  refine ⟨rfl, fun k o hk => ?_, fun j k o o' b x y x' y' hj hk _ _ => ?_⟩
  · obtain ⟨rfl, rfl⟩ := key hk
    exact ⟨_, 0, 0, 0, _, rfl, rfl, rfl, cs, E, fr, rfl, h⟩
  · rw [(key hj).1, (key hk).1]
theorem doorH_zero : ∀ k o, doorH.h.get k = some o → k = 0 := fun k o hk => by
  rcases T.get_set hk with ⟨h1, _⟩ | ⟨_, h2⟩
  · exact h1
  · cases h2
end
end Go.Proofs.YtakedlockchpcaaGreatDoor
namespace Go.Proofs.YtakedlockchpcaaGreatDoor
open Go.RowKit
def HandleIn (L : List (Nat × Obj)) : Prop := ∃ cs E fr, (0, Obj.cells cs E fr) ∈ L ∧ cs[0]? = some handle
theorem HandleIn.cons {L : List (Nat × Obj)} (p : Nat × Obj) (h : HandleIn L) : HandleIn (p :: L) := by
  obtain ⟨cs, E, fr, h1, h2⟩ := h
  exact ⟨cs, E, fr, List.mem_cons_of_mem _ h1, h2⟩
end Go.Proofs.YtakedlockchpcaaGreatDoor
namespace Go.Proofs.YtakedlockchpcaaGreatDoor
open Go.RowKit
inductive Fk where
  | ww | nn | kk | tt | bb
def Fk.enc : Fk → Value → List UInt8
  | .ww, .int _ x => Go.Proofs.YtakedlockchpcaaGreatDoor.enc (zz x)
  | .nn, .int _ x => Go.Proofs.YtakedlockchpcaaGreatDoor.enc x.toNat
  | .kk, .int _ x => Go.Proofs.YtakedlockchpcaaGreatDoor.enc x.toNat
  | .tt, .bool x => encB x
  | .bb, .int _ x => [UInt8.ofNat x.toNat]
  | _, _ => []
def Fk.ok : Fk → Value → Prop
  | .ww, v => ∃ x : Int, v = .int .i64 x ∧ -9223372036854775808 ≤ x ∧ x < 9223372036854775808
  | .nn, v => ∃ x : Int, v = .int .u64 x ∧ 0 ≤ x ∧ x < 18446744073709551616
  | .kk, v => ∃ x : Int, v = .int .u32 x ∧ 0 ≤ x ∧ x < 4294967296
  | .tt, v => ∃ x : Bool, v = .bool x
  | .bb, v => ∃ x : UInt8, v = bV x
def encs : List Fk → List Value → List UInt8
  | f :: fs, v :: vs => f.enc v ++ encs fs vs
  | _, _ => []
def Oks : List Fk → List Value → Prop
  | [], [] => True
  | f :: fs, v :: vs => f.ok v ∧ Oks fs vs
  | _, _ => False
def encl (es : List Fk) (vss : List (List Value)) : List UInt8 := enc vss.length ++ vss.flatMap (encs es)
theorem Oks.len : ∀ {fs : List Fk} {vs : List Value}, Oks fs vs → vs.length = fs.length
  | [], [], _ => rfl
  | _ :: _, _ :: _, h => by simp [Oks.len h.2]
  | [], _ :: _, h => h.elim
  | _ :: _, [], h => h.elim
theorem Oks.app : ∀ {fs gs : List Fk} {vs us : List Value}, Oks fs vs → Oks gs us → Oks (fs ++ gs) (vs ++ us)
  | [], _, [], _, _, h => h
  | _ :: _, _, _ :: _, _, h1, h2 => ⟨h1.1, Oks.app h1.2 h2⟩
  | [], _, _ :: _, _, h, _ => h.elim
  | _ :: _, _, [], _, h, _ => h.elim
end Go.Proofs.YtakedlockchpcaaGreatDoor
namespace Go.Proofs.YtakedlockchpcaaGreatDoor
open Go.RowKit
def FnE (P : Program) (f : FuncId) (args : List Value) (L : List (Nat × Obj)) (Rr Rp : Value → List (Nat × Obj) → Prop) : Prop := ∀ g w, Mem g L w → Calls P f args.toArray w (EndR g Rr Rp)
theorem EndR.mono {g : World} {Rr Rp Rr' Rp' : Value → List (Nat × Obj) → Prop} (h1 : ∀ v L, Rr v L → Rr' v L) (h2 : ∀ v L, Rp v L → Rp' v L) {e : Ending} {w : World} (h : EndR g Rr Rp e w) : EndR g Rr' Rp' e w := by
  rcases h with ⟨v, L, a, b, c⟩ | ⟨v, L, a, b, c⟩
  · exact .inl ⟨v, L, a, b, h1 v L c⟩
  · exact .inr ⟨v, L, a, b, h2 v L c⟩
theorem FnE.mono {P : Program} {f : FuncId} {args : List Value} {L : List (Nat × Obj)} {Rr Rp Rr' Rp' : Value → List (Nat × Obj) → Prop} (h : FnE P f args L Rr Rp) (h1 : ∀ v L, Rr v L → Rr' v L) (h2 : ∀ v L, Rp v L → Rp' v L) : FnE P f args L Rr' Rp' :=
  fun g w hm => (h g w hm).mono fun _ _ hE => hE.mono h1 h2
theorem FnE.perm {P : Program} {f : FuncId} {args : List Value} {L L1 : List (Nat × Obj)} {Rr Rp Rr1 Rp1 : Value → List (Nat × Obj) → Prop} (h : FnE P f args L1 Rr1 Rp1) (hp : L1.Perm L) (h1 : ∀ v L', Rr1 v L' → ∃ L2, L2.Perm L' ∧ Rr v L2) (h2 : ∀ v L', Rp1 v L' → ∃ L2, L2.Perm L' ∧ Rp v L2) : FnE P f args L Rr Rp :=
  fun g w hm => (h g w (hm.perm hp)).mono fun _ _ hE => by
    rcases hE with ⟨v, L', a, b, c⟩ | ⟨v, L', a, b, c⟩
    · obtain ⟨L2, p, q⟩ := h1 v L' c; exact .inl ⟨v, L2, a, b.perm p, q⟩
    · obtain ⟨L2, p, q⟩ := h2 v L' c; exact .inr ⟨v, L2, a, b.perm p, q⟩
theorem FnE.ofFn {P : Program} {f : FuncId} {args : List Value} {L : List (Nat × Obj)} {Rr Rp : Value → List (Nat × Obj) → Prop} (h : Fn P f args L Rr) : FnE P f args L Rr Rp :=
  fun g w hm => (h g w hm).mono fun _ _ ⟨v, L', h1, h2, h3⟩ => .inl ⟨v, L', h1, h2, h3⟩
theorem FnE.toFn {P : Program} {f : FuncId} {args : List Value} {L : List (Nat × Obj)} {Rr Rp : Value → List (Nat × Obj) → Prop} (h : FnE P f args L Rr Rp) (hn : ∀ v L', ¬ Rp v L') : Fn P f args L Rr :=
  fun g w hm => (h g w hm).mono fun _ _ hE => by
    rcases hE with ⟨v, L', a, b, c⟩ | ⟨v, L', _, _, c⟩
    · exact ⟨v, L', a, b, c⟩
    · exact (hn v L' c).elim
theorem FnE_enter {P : Program} {f : FuncId} {fn : Func} {code : Code} {args : List Value} {L : List (Nat × Obj)} {Rr Rp : Value → List (Nat × Obj) → Prop} {N : Nat} (hf : P.funcs[f]? = some fn) (hb : fn.body = some code) (hN : fn.ntmps = N) (hl : Nat.ble args.length N = true)
    (h : ∀ g, WC ⟨P, g, N, 0, none⟩ code (postL ⟨P, g, N, 0, none⟩ fn Rr Rp) ⟨initS 0 args, [], L⟩) : FnE P f args L Rr Rp := enterL hf hb hN hl h
section
variable {c : Cx} {o : Oper} {Kn : St → Prop} {K : Exit → St → Prop} {σ : St}
theorem OW_enterE {f : FuncId} {vs : List Value} {Rr Rp : Value → List (Nat × Obj) → Prop} (hnd : ∀ cc, o.op ≠ .defer cc) (hr : ∀ a w, Holds c.g c.N σ a w → (execOp a.eval o).run c.P w = .ok (.enter f vs.toArray) w) (hd : dok c.N o.dst = true)
    (hF : FnE c.P f vs σ.L Rr Rp) (hk : ∀ v L', Rr v L' → Kn (St.put ⟨σ.s, σ.D, L'⟩ o.dst v)) (hp : ∀ v L', Rp v L' → K (.panic (pan v)) ⟨[], σ.D, L'⟩) : OW c o Kn K σ := fun a w hH => by
  refine ⟨fun _ _ => trivial, ?_⟩
  rw [Oper.semAt_eq _ _ _ hnd, hr a w hH]
  refine ⟨fun h => by simp at h, (callsIn_fw c.r _ (hF c.g w hH.mem)).mono fun e w' hE => ?_⟩
  rcases hE with ⟨v, L', h1, h2, h3⟩ | ⟨v, L', h1, h2, h3⟩
  · subst h1
    exact ⟨_, (hH.mem' h2).put hd v, hk v L' h3⟩
  · subst h1
    exact ⟨σ.D, L', ⟨hH.size, (fun t u hu => by cases hu), hH.defers, h2⟩, hp v L' h3⟩
theorem call_run {f : FuncId} {x : Operand} {A B : Array Value} {args : Array Operand} {tys : Array TypeId} [hf : FCall c.P f] {vs : List Value} (ho : o.op = .call { callee := .value x, args := args, argTypes := tys }) (hx : ev σ.s x = some (.func (.func f) A B)) (ha : evs σ.s args.toList = some vs) (a : Act) (w : World) (hH : Holds c.g c.N σ a w) :
    (execOp a.eval o).run c.P w = .ok (.enter f (A.toList ++ vs ++ B.toList).toArray) w := by
  have hargs : args.map a.eval = vs.toArray := by
    apply Array.ext'
    simpa using hH.evs ha
  have e : (A.toList ++ vs ++ B.toList).toArray = A ++ vs.toArray ++ B := by apply Array.ext'; simp
  rw [e]
  simp [execOp, ho, resolve, Deferred.ofValue, hH.ev hx, hargs, invoke, hf.h]
end
theorem OW_callE {c : Cx} {o : Oper} {Kn : St → Prop} {K : Exit → St → Prop} {s : List (Nat × Value)} {D : List Deferred} {L : List (Nat × Obj)} {f d : FuncId} {x : Operand} {args : Array Operand} {tys : Array TypeId} [hf : FCall c.P f] {vs : List Value} {Rr Rp : Value → List (Nat × Obj) → Prop}
    (ho : o.op = .call { callee := .value x, args := args, argTypes := tys }) (hF : FnE c.P f vs L Rr Rp) (hk : ∀ v L', Rr v L' → Kn ⟨(d, v) :: s, D, L'⟩) (hp : ∀ v L', Rp v L' → K (.panic (pan v)) ⟨[], D, L'⟩)
    (hdst : o.dst = some d := by exact rfl) (hd : Nat.blt d c.N = true := by exact rfl) (hx : ev s x = some (.func (.func f) #[] #[]) := by exact rfl) (ha : evs s args.toList = some vs := by exact rfl) : OW c o Kn K ⟨s, D, L⟩ :=
  OW_enterE (σ := ⟨s, D, L⟩) (by rw [ho]; intro cc h; cases h) (call_run ho hx ha) (by rw [hdst]; exact hd) (by simpa using hF) (by rw [hdst]; exact hk) hp
theorem OW_invE {c : Cx} {o : Oper} {Kn : St → Prop} {K : Exit → St → Prop} {s : List (Nat × Value)} {D : List Deferred} {L : List (Nat × Obj)} {f d : FuncId} {x : Operand} {name : String} {args : Array Operand} {tys : Array TypeId} {t : TypeId} {r : Value} (hm : methX c.P t name = some f) [hf : FCall c.P f] {vs : List Value} {Rr Rp : Value → List (Nat × Obj) → Prop}
    (ho : o.op = .call { callee := .invoke x name, args := args, argTypes := tys }) (hF : FnE c.P f (r :: vs) L Rr Rp) (hk : ∀ v L', Rr v L' → Kn ⟨(d, v) :: s, D, L'⟩) (hp : ∀ v L', Rp v L' → K (.panic (pan v)) ⟨[], D, L'⟩)
    (hdst : o.dst = some d := by exact rfl) (hd : Nat.blt d c.N = true := by exact rfl) (hx : ev s x = some (.iface t r) := by exact rfl) (ha : evs s args.toList = some vs := by exact rfl) : OW c o Kn K ⟨s, D, L⟩ :=
  OW_enterE (σ := ⟨s, D, L⟩) (by rw [ho]; intro cc h; cases h) (fun a w hH => invoke_run ho hx ha hm a w hH) (by rw [hdst]; exact hd) hF (by rw [hdst]; exact hk) hp
def Free (fr : Nat × Nat) (off n : Nat) : Prop := ∀ k, k < n → ¬ (fr.1 ≤ off + k ∧ off + k < fr.2)
theorem Free.sub {fr : Nat × Nat} {off n : Nat} (h : Free fr off n) (j m : Nat) (hm : j + m ≤ n) : Free fr (off + j) m := fun k hk => by
  have := h (j + k) (by omega)
  rwa [← Nat.add_assoc] at this
theorem Free.zero (off n : Nat) : Free (0, 0) off n := fun k _ => by simp
theorem OW_store1F {c : Cx} {o : Oper} {Kn : St → Prop} {K : Exit → St → Prop} {s : List (Nat × Value)} {D : List Deferred} {L : List (Nat × Obj)} {t : TypeId} [hs : TSize c.P t 1] {x y : Operand} {b off : Nat} {cs : Array Value} {v : Value} {E : TypeId} {fr : Nat × Nat} (ho : o.op = .store t x y) (i : Nat) (hi : L[i]? = some (b, .cells cs E fr)) (hl : off < cs.size) (hfr : Free fr off 1)
    (hk : Kn ⟨s, D, L.set i (b, .cells (cs.setIfInBounds off v) E fr)⟩) (hdst : o.dst = none := by exact rfl) (hx : ev s x = some (.pointer (some ⟨b, off, none⟩)) := by exact rfl) (hy : ev s y = some v := by exact rfl) (h1 : v.oneCell' = true := by exact rfl) : OW c o Kn K ⟨s, D, L⟩ := fun a w ha => by
  refine ⟨fun _ _ => trivial, ?_⟩
  have hcell : w.cell? ⟨b, off, none⟩ = some cs[off] := by rw [cell_of_row w b off cs E fr (ha.mem.at_ hi)]; simp [hl]
  have hfro : w.frozen? ⟨b, off, none⟩ = false := by
    obtain ⟨lo, hi'⟩ := fr
    have h2 := hfr 0 (by omega)
    simp only [Nat.add_zero] at h2
    unfold World.frozen?
    simp only [ha.mem.at_ hi, Bool.and_eq_false_iff, decide_eq_false_iff_not]
    omega
  have hc1 : v.cells = #[v] := by cases v <;> first | rfl | cases h1
  have hr : (execOp a.eval o).run c.P w = .ok .skip (w.setRow b (cs.setIfInBounds off v)) := by
    have hst : (store (⟨b, off, none⟩ : Addr) v).run c.P w = .ok () (w.setRow b (cs.setIfInBounds off v)) := by
      rw [run_store c.P w _ v _ h1, hcell]
      simp [hfro, setCell_eq_setRow w b off cs E fr v (ha.mem.at_ hi)]
    simp [execOp, ho, ha.ev hx, ha.ev hy, Instr.storeAt, Instr.sureAddr, storeVar, hs.h, hc1, storeCells, Addr.add, hst]
  rw [Oper.semAt_eq _ _ _ (by rw [ho]; intro cc h; cases h), hr]
  refine ⟨_, ?_, hk⟩
  rw [hdst]
  exact ha.mem' (ha.mem.setRow hi _)
theorem set_app {A R : List (Nat × Obj)} {i : Nat} {q : Nat × Obj} : (A ++ R).set (A.length + i) q = A ++ R.set i q := by
  rw [List.set_append_right _ _ (by omega)]
  congr 2
  omega
theorem get_app {A R : List (Nat × Obj)} {i : Nat} {q : Nat × Obj} (h : R[i]? = some q) : (A ++ R)[A.length + i]? = some q := by
  rw [List.getElem?_append_right (by omega), show A.length + i - A.length = i by omega]; exact h
def Lies (cs : Array Value) (off : Nat) (vs : List Value) : Prop := ∀ j v, vs[j]? = some v → cs[off + j]? = some v
structure Upd (cs cs' : Array Value) (off : Nat) (vs : List Value) : Prop where
  size : cs'.size = cs.size
  lies : Lies cs' off vs
  rest : ∀ q, q < off ∨ off + vs.length ≤ q → cs'[q]? = cs[q]?
theorem Lies.cons {cs : Array Value} {off : Nat} {v : Value} {vs : List Value} (h : Lies cs off (v :: vs)) : cs[off]? = some v ∧ Lies cs (off + 1) vs :=
  ⟨h 0 v rfl, fun j u hj => by rw [Nat.add_assoc, Nat.add_comm 1 j]; exact h (j + 1) u hj⟩
theorem Lies.app {cs : Array Value} {off : Nat} {vs us : List Value} (h : Lies cs off (vs ++ us)) : Lies cs off vs ∧ Lies cs (off + vs.length) us :=
  ⟨fun j v hj => h j v (by rw [List.getElem?_append_left (List.getElem?_eq_some_iff.1 hj).1]; exact hj), fun j v hj => by
    rw [Nat.add_assoc]; exact h _ v (by rw [List.getElem?_append_right (by omega), show vs.length + j - vs.length = j by omega]; exact hj)⟩
theorem Lies.cut {cs : Array Value} {off : Nat} {vs : List Value} (h : Lies cs off vs) (at_ m : Nat) : Lies cs (off + at_) ((vs.drop at_).take m) := fun j v hj => by
  rw [Nat.add_assoc]
  refine h _ v ?_
  rw [List.getElem?_take] at hj
  split at hj
  · rwa [List.getElem?_drop] at hj
  · cases hj
theorem Upd.app {cs cs1 cs2 : Array Value} {off off' : Nat} {vs us : List Value} (h1 : Upd cs cs1 off vs) (h2 : Upd cs1 cs2 off' us) (ho : off' = off + vs.length) : Upd cs cs2 off (vs ++ us) := by
  subst ho
  refine ⟨h2.size.trans h1.size, fun j v hj => ?_, fun q hq => ?_⟩
  · by_cases hlt : j < vs.length
    · rw [List.getElem?_append_left hlt] at hj
      rw [h2.rest _ (.inl (by omega))]; exact h1.lies j v hj
    · rw [List.getElem?_append_right (by omega)] at hj
      have := h2.lies _ v hj
      rwa [show off + vs.length + (j - vs.length) = off + j by omega] at this
  · rw [List.length_append] at hq
    rw [h2.rest q (by omega), h1.rest q (by omega)]
theorem Upd.refl_of {cs : Array Value} {off : Nat} {vs : List Value} (h : Lies cs off vs) : Upd cs cs off vs := ⟨rfl, h, fun _ _ => rfl⟩
theorem Upd.same {cs cs' : Array Value} {off : Nat} {vs : List Value} (h : Upd cs cs' off vs) (hl : Lies cs off vs) : cs' = cs := by
  apply Array.ext_getElem?
  intro q
  by_cases hq : q < off ∨ off + vs.length ≤ q
  · exact h.rest q hq
  · obtain ⟨v, hv⟩ : ∃ v, vs[q - off]? = some v := ⟨_, List.getElem?_eq_getElem (by omega)⟩
    have h1 := h.lies _ v hv
    have h2 := hl _ v hv
    rw [show off + (q - off) = q by omega] at h1 h2
    rw [h1, h2]
theorem Upd.one {cs : Array Value} {off : Nat} (v : Value) (h : off < cs.size) : Upd cs (cs.setIfInBounds off v) off [v] := by
  refine ⟨by simp, fun j u hj => ?_, fun q hq => ?_⟩
  · cases j with
    | zero => simp at hj; subst hj; simp [h]
    | succ j => simp at hj
  · rw [Array.getElem?_setIfInBounds_ne (by simp at hq; omega)]
inductive RW (S : Type) where
  | ok (s : S) (v : Value)
  | bad (code at_ : Nat)
inductive RWs (S : Type) where
  | ok (s : S) (vs : List Value)
  | bad (code at_ : Nat)
structure Wy (P : Program) where
  S : Type
  t : TypeId
  v : Value
  T0 : List (Nat × Obj)
  mem : S → List (Nat × Obj) → Prop
  room : S → Nat → Prop
  stp : Fk → S → Value → RW S
  hr : S → S
  mst : Bool → Nat → S → Option (Nat × Nat)
  hr_room : ∀ {s n}, room s n → room (hr s) n
  key_ok : ∀ {s x s' y}, 0 ≤ x → x < 4294967296 → stp .nn (hr s) (.int .u64 x) = .ok s' (.int .u64 y) → mst (decide (y ≤ 4294967295)) 4 s' = none → stp .kk s (.int .u32 x) = .ok s' (.int .u32 y) ∧ y < 4294967296
  key_bad : ∀ {s x c a}, stp .nn (hr s) (.int .u64 x) = .bad c a → stp .kk s (.int .u32 x) = .bad c a
  key_must : ∀ {s x s' y c a}, stp .nn (hr s) (.int .u64 x) = .ok s' (.int .u64 y) → mst (decide (y ≤ 4294967295)) 4 s' = some (c, a) → stp .kk s (.int .u32 x) = .bad c a
  keeps : T0 = [] ∨ ∀ k s x s' y, stp k s x = .ok s' y → y = x
  stp_ok : ∀ {k s x s' y}, stp k s x = .ok s' y → Fk.ok k x → Fk.ok k y
  stp_room : ∀ {k s x s' y n}, stp k s x = .ok s' y → Fk.ok k x → room s (n + 1) → room s' n
  room_le : ∀ {s n m}, room s n → m ≤ n → room s m
variable {P : Program}
def Wy.recv (W : Wy P) : Value := .iface W.t W.v
def Wy.stps (W : Wy P) : List Fk → W.S → List Value → RWs W.S
  | [], s, _ => .ok s []
  | _ :: _, s, [] => .ok s []
  | k :: ks, s, v :: vs => match W.stp k s v with
    | .bad c a => .bad c a
    | .ok s' v' => match W.stps ks s' vs with
      | .bad c a => .bad c a
      | .ok s'' vs' => .ok s'' (v' :: vs')
theorem Wy.stps_app (W : Wy P) : ∀ {ks : List Fk} {ls : List Fk} {s : W.S} {vs us : List Value}, Oks ks vs → W.stps (ks ++ ls) s (vs ++ us) = match W.stps ks s vs with
    | .bad c a => .bad c a
    | .ok s' vs' => match W.stps ls s' us with
      | .bad c a => .bad c a
      | .ok s'' us' => .ok s'' (vs' ++ us')
  | [], ls, s, [], us, _ => by
    simp only [List.nil_append, Wy.stps]
    cases W.stps ls s us <;> rfl
  | k :: ks, ls, s, v :: vs, us, h => by
    simp only [List.cons_append, Wy.stps]
    cases W.stp k s v with
    | bad c a => rfl
    | ok s' v' =>
      simp only
      rw [Wy.stps_app W h.2]
      cases W.stps ks s' vs with
      | bad c a => rfl
      | ok s'' vs' =>
        simp only
        cases W.stps ls s'' us <;> rfl
  | [], _, _, _ :: _, _, h => h.elim
  | _ :: _, _, _, [], _, h => h.elim
theorem Wy.stps_ok (W : Wy P) : ∀ {ks : List Fk} {s s' : W.S} {vs us : List Value}, W.stps ks s vs = .ok s' us → Oks ks vs → Oks ks us
  | [], _, _, [], us, h, _ => by simp only [Wy.stps] at h; cases h; trivial
  | k :: ks, s, s', v :: vs, us, h, ho => by
    simp only [Wy.stps] at h
    cases h1 : W.stp k s v with
    | bad c a => rw [h1] at h; cases h
    | ok s1 v1 =>
      rw [h1] at h
      cases h2 : W.stps ks s1 vs with
      | bad c a => simp only [h2] at h; cases h
      | ok s2 vs2 =>
        simp only [h2] at h
        cases h
        exact ⟨W.stp_ok h1 ho.1, Wy.stps_ok W h2 ho.2⟩
  | [], _, _, _ :: _, _, _, h => h.elim
  | _ :: _, _, _, [], _, _, h => h.elim
theorem Wy.stps_room (W : Wy P) : ∀ {ks : List Fk} {s s' : W.S} {vs us : List Value} {n : Nat}, W.stps ks s vs = .ok s' us → Oks ks vs → W.room s (n + ks.length) → W.room s' n
  | [], _, _, [], us, n, h, _, hr => by simp only [Wy.stps] at h; cases h; exact hr
  | k :: ks, s, s', v :: vs, us, n, h, ho, hr => by
    simp only [Wy.stps] at h
    cases h1 : W.stp k s v with
    | bad c a => rw [h1] at h; cases h
    | ok s1 v1 =>
      rw [h1] at h
      cases h2 : W.stps ks s1 vs with
      | bad c a => simp only [h2] at h; cases h
      | ok s2 vs2 =>
        simp only [h2] at h
        cases h
        exact Wy.stps_room W h2 ho.2 (W.stp_room h1 ho.1 hr)
  | [], _, _, _ :: _, _, _, _, h, _ => h.elim
  | _ :: _, _, _, [], _, _, _, h, _ => h.elim
theorem Wy.cat_ok (W : Wy P) {fs gs : List Fk} {s s1 s2 : W.S} {vs us vs1 us2 : List Value} (h1 : W.stps fs s vs = .ok s1 vs1) (ho : Oks fs vs) (h2 : W.stps gs s1 us = .ok s2 us2) : W.stps (fs ++ gs) s (vs ++ us) = .ok s2 (vs1 ++ us2) := by
  rw [W.stps_app ho, h1]
  simp only [h2]
theorem Wy.cat_bad (W : Wy P) {fs gs : List Fk} {s s1 : W.S} {vs us vs1 : List Value} {c a : Nat} (h1 : W.stps fs s vs = .ok s1 vs1) (ho : Oks fs vs) (h2 : W.stps gs s1 us = .bad c a) : W.stps (fs ++ gs) s (vs ++ us) = .bad c a := by
  rw [W.stps_app ho, h1]
  simp only [h2]
theorem Wy.bad_cat (W : Wy P) {fs : List Fk} (gs : List Fk) {s : W.S} {vs : List Value} (us : List Value) {c a : Nat} (h1 : W.stps fs s vs = .bad c a) (ho : Oks fs vs) : W.stps (fs ++ gs) s (vs ++ us) = .bad c a := by
  rw [W.stps_app ho, h1]
theorem Wy.stps_len (W : Wy P) {fs : List Fk} {s s' : W.S} {vs us : List Value} (h : W.stps fs s vs = .ok s' us) (ho : Oks fs vs) : us.length = fs.length := (W.stps_ok h ho).len
theorem Wy.stps1_ok (W : Wy P) {k : Fk} {s s' : W.S} {v v' : Value} (h : W.stp k s v = .ok s' v') : W.stps [k] s [v] = .ok s' [v'] := by simp only [Wy.stps, h]
theorem Wy.stps1_bad (W : Wy P) {k : Fk} {s : W.S} {v : Value} {c a : Nat} (h : W.stp k s v = .bad c a) : W.stps [k] s [v] = .bad c a := by simp only [Wy.stps, h]
theorem Oks.split {k : Fk} {ks : List Fk} {vs : List Value} (h : Oks (k :: ks) vs) : ∃ v us, vs = v :: us ∧ k.ok v ∧ Oks ks us := by
  cases vs with
  | nil => exact h.elim
  | cons v us => exact ⟨v, us, rfl, h.1, h.2⟩
theorem Oks.nil {vs : List Value} (h : Oks [] vs) : vs = [] := by
  cases vs with
  | nil => rfl
  | cons v us => exact h.elim
def FRet (W : Wy P) (r : RWs W.S) (R : List (Nat × Obj)) (i b : Nat) (cs : Array Value) (E : TypeId) (fr : Nat × Nat) (off : Nat) (L' : List (Nat × Obj)) : Prop :=
  ∃ s' vs' Lp' cs', r = .ok s' vs' ∧ L' = Lp' ++ R.set i (b, .cells cs' E fr) ∧ W.mem s' Lp' ∧ Upd cs cs' off vs' ∧ ∀ q ∈ W.T0, q ∈ R.set i (b, .cells cs' E fr)
def FPan (W : Wy P) (r : RWs W.S) (R : List (Nat × Obj)) (i b : Nat) (cs : Array Value) (E : TypeId) (fr : Nat × Nat) (u : Value) (L' : List (Nat × Obj)) : Prop :=
  ∃ c a p s' Lp' cs', r = .bad c a ∧ u = flt p ∧ L' = (p, fltO c a) :: (Lp' ++ R.set i (b, .cells cs' E fr)) ∧ W.mem s' Lp' ∧ cs'.size = cs.size
def Flat (W : Wy P) (f : FuncId) (a0 : Value) (fs : List Fk) : Prop :=
  ∀ (s : W.S) (Lp R : List (Nat × Obj)) (i b : Nat) (cs : Array Value) (E : TypeId) (fr : Nat × Nat) (off : Nat) (vs : List Value), W.mem s Lp → (∀ q ∈ W.T0, q ∈ R) → W.room s fs.length → R[i]? = some (b, .cells cs E fr) → Oks fs vs → Lies cs off vs → Free fr off fs.length →
    FnE P f [a0, .pointer (some ⟨b, off, none⟩)] (Lp ++ R) (fun v L' => v = .tuple #[] ∧ FRet W (W.stps fs s vs) R i b cs E fr off L') (FPan W (W.stps fs s vs) R i b cs E fr)
theorem FnE.dropP {P : Program} {f : FuncId} {args : List Value} {L : List (Nat × Obj)} {Rr Rp Rp' : Value → List (Nat × Obj) → Prop} (h : FnE P f args L Rr Rp) (h2 : ∀ v L', Rp v L' → ∃ Lx, Lx.Sublist L' ∧ Rp' v Lx) : FnE P f args L Rr Rp' :=
  fun g w hm => (h g w hm).mono fun _ _ hE => by
    rcases hE with ⟨v, L', a, b, c⟩ | ⟨v, L', a, b, c⟩
    · exact .inl ⟨v, L', a, b, c⟩
    · obtain ⟨Lx, p, q⟩ := h2 v L' c; exact .inr ⟨v, Lx, a, b.sublist p, q⟩
theorem set_same {α : Type} {l : List α} {i : Nat} {x : α} (h : l[i]? = some x) : l.set i x = l := by
  apply List.ext_getElem?
  intro j
  rw [List.getElem?_set]
  obtain ⟨hl, he⟩ := List.getElem?_eq_some_iff.1 h
  by_cases e : i = j
  · subst e; simp [hl, he]
  · rw [if_neg e]
theorem get_set_self {α : Type} {l : List α} {i : Nat} {x : α} (h : l[i]? = some x) (y : α) : (l.set i y)[i]? = some y := by
  have := (List.getElem?_eq_some_iff.1 h).1
  simp [this]
section
variable {c : Cx} {o : Oper} {Kn : St → Prop} {K : Exit → St → Prop} {sl : List (Nat × Value)} {D : List Deferred}
structure After (W : Wy c.P) (fs : List Fk) (s : W.S) (vs : List Value) (R : List (Nat × Obj)) (i b : Nat) (cs : Array Value) (E : TypeId) (fr : Nat × Nat) (off : Nat) (Kn : List (Nat × Obj) → Prop) (Kp : List PanicEntry → List (Nat × Obj) → Prop) : Prop where
  ret : ∀ s' vs' Lp' cs', W.stps fs s vs = .ok s' vs' → W.mem s' Lp' → Upd cs cs' off vs' → (∀ q ∈ W.T0, q ∈ R.set i (b, .cells cs' E fr)) → Kn (Lp' ++ R.set i (b, .cells cs' E fr))
  pan : ∀ q a p s' Lp' cs', W.stps fs s vs = .bad q a → W.mem s' Lp' → cs'.size = cs.size → Kp (pan (flt p)) ((p, fltO q a) :: (Lp' ++ R.set i (b, .cells cs' E fr)))
variable {W : Wy c.P} {s : W.S} {Lp R : List (Nat × Obj)} {i b : Nat} {cs : Array Value} {E : TypeId} {fr : Nat × Nat} {off : Nat}
theorem OW_flatF {fs : List Fk} {vs : List Value} {f d : FuncId} {x : Operand} {args : Array Operand} {tys : Array TypeId} [hf : FCall c.P f] (hC : Flat W f W.recv fs) (hM : W.mem s Lp) (hT : ∀ q ∈ W.T0, q ∈ R) (hr : W.room s fs.length) (hR : R[i]? = some (b, .cells cs E fr)) (hv : Oks fs vs) (hl : Lies cs off vs) (hfr : Free fr off fs.length)
    (ho : o.op = .call { callee := .value x, args := args, argTypes := tys }) (hk : After W fs s vs R i b cs E fr off (fun L => Kn ⟨(d, .tuple #[]) :: sl, D, L⟩) (fun ch L => K (.panic ch) ⟨[], D, L⟩))
    (hdst : o.dst = some d := by exact rfl) (hd : Nat.blt d c.N = true := by exact rfl) (hx : ev sl x = some (.func (.func f) #[] #[]) := by exact rfl) (ha : evs sl args.toList = some [W.recv, .pointer (some ⟨b, off, none⟩)] := by exact rfl) : OW c o Kn K ⟨sl, D, Lp ++ R⟩ :=
  OW_callE ho (hC s Lp R i b cs E fr off vs hM hT hr hR hv hl hfr) (fun v L' ⟨h0, s', vs', Lp', cs', h1, h2, h3, h4, h5⟩ => by
    rw [h2, h0]; exact hk.ret s' vs' Lp' cs' h1 h3 h4 h5) (fun v L' ⟨q, a, p, s', Lp', cs', h1, h2, h3, h4, h5⟩ => by
    rw [h2, h3]; exact hk.pan q a p s' Lp' cs' h1 h4 h5) hdst hd hx ha
theorem OW_flatI {k : Fk} {x0 : Value} {f d : FuncId} {x : Operand} {name : String} {args : Array Operand} {tys : Array TypeId} (hm : methX c.P W.t name = some f) [hf : FCall c.P f] (hC : Flat W f W.v [k]) (hM : W.mem s Lp) (hT : ∀ q ∈ W.T0, q ∈ R) (hr : W.room s 1) (hR : R[i]? = some (b, .cells cs E fr)) (hv : k.ok x0) (hl : cs[off]? = some x0) (hfr : Free fr off 1)
    (ho : o.op = .call { callee := .invoke x name, args := args, argTypes := tys }) (hk : After W [k] s [x0] R i b cs E fr off (fun L => Kn ⟨(d, .tuple #[]) :: sl, D, L⟩) (fun ch L => K (.panic ch) ⟨[], D, L⟩))
    (hdst : o.dst = some d := by exact rfl) (hd : Nat.blt d c.N = true := by exact rfl) (hx : ev sl x = some (.iface W.t W.v) := by exact rfl) (ha : evs sl args.toList = some [.pointer (some ⟨b, off, none⟩)] := by exact rfl) : OW c o Kn K ⟨sl, D, Lp ++ R⟩ :=
  OW_enterE (σ := ⟨sl, D, Lp ++ R⟩) (by rw [ho]; intro cc h; cases h) (fun a w hH => invoke_run ho hx ha hm a w hH) (by rw [hdst]; exact hd) (hC s Lp R i b cs E fr off [x0] hM hT hr hR ⟨hv, trivial⟩ (fun j v hj => by
    cases j with
    | zero => simp at hj; subst hj; exact hl
    | succ j => simp at hj) hfr) (fun v L' ⟨h0, s', vs', Lp', cs', h1, h2, h3, h4, h5⟩ => by
    rw [hdst, h2, h0]; exact hk.ret s' vs' Lp' cs' h1 h3 h4 h5) (fun v L' ⟨q, a, p, s', Lp', cs', h1, h2, h3, h4, h5⟩ => by
    rw [h2, h3]; exact hk.pan q a p s' Lp' cs' h1 h4 h5)
theorem OW_locI {k : Fk} {x0 : Value} {f d m : FuncId} {x : Operand} {name : String} {args : Array Operand} {tys : Array TypeId} (hm : methX c.P W.t name = some f) [hf : FCall c.P f] (hC : Flat W f W.v [k]) (hM : W.mem s Lp) (hT : ∀ q ∈ W.T0, q ∈ R) (hr : W.room s 1) (hv : k.ok x0)
    (ho : o.op = .call { callee := .invoke x name, args := args, argTypes := tys })
    (hk : ∀ s' x' Lp', W.stp k s x0 = .ok s' x' → W.mem s' Lp' → Kn ⟨(d, .tuple #[]) :: sl, D, (m, .cells #[x'] E (0, 0)) :: (Lp' ++ R)⟩)
    (hp : ∀ q a p s' Lp', W.stp k s x0 = .bad q a → W.mem s' Lp' → K (.panic (pan (flt p))) ⟨[], D, (p, fltO q a) :: (Lp' ++ R)⟩)
    (hdst : o.dst = some d := by exact rfl) (hd : Nat.blt d c.N = true := by exact rfl) (hx : ev sl x = some (.iface W.t W.v) := by exact rfl) (ha : evs sl args.toList = some [.pointer (some ⟨m, 0, none⟩)] := by exact rfl) : OW c o Kn K ⟨sl, D, (m, .cells #[x0] E (0, 0)) :: (Lp ++ R)⟩ := by
  have hF := hC s Lp ((m, .cells #[x0] E (0, 0)) :: R) 0 m #[x0] E (0, 0) 0 [x0] hM (fun q hq => List.mem_cons_of_mem _ (hT q hq)) hr rfl ⟨hv, trivial⟩ (fun j v hj => by
    cases j with
    | zero => simp at hj; subst hj; rfl
    | succ j => simp at hj) (Free.zero _ _)
  have hF2 : FnE c.P f [W.v, .pointer (some ⟨m, 0, none⟩)] ((m, .cells #[x0] E (0, 0)) :: (Lp ++ R)) (fun v L' => v = .tuple #[] ∧ ∃ s' x' Lp', W.stp k s x0 = .ok s' x' ∧ L' = (m, .cells #[x'] E (0, 0)) :: (Lp' ++ R) ∧ W.mem s' Lp') (fun u L' => ∃ q a p s' Lp', W.stp k s x0 = .bad q a ∧ u = flt p ∧ L' = (p, fltO q a) :: (Lp' ++ R) ∧ W.mem s' Lp') := by
    refine FnE.perm (Rr1 := fun v L' => v = .tuple #[] ∧ FRet W (W.stps [k] s [x0]) ((m, .cells #[x0] E (0, 0)) :: R) 0 m #[x0] E (0, 0) 0 L') (Rp1 := fun u L' => ∃ q a p s' Lp', W.stp k s x0 = .bad q a ∧ u = flt p ∧ L' = (p, fltO q a) :: (Lp' ++ R) ∧ W.mem s' Lp') (hF.dropP ?_) List.perm_middle ?_ ?_
    · rintro u L' ⟨q, a, p, s', Lp', cs', h1, h2, rfl, h4, _⟩
      refine ⟨(p, fltO q a) :: (Lp' ++ R), .cons_cons _ (List.Sublist.append (.refl _) (.cons _ (.refl _))), q, a, p, s', Lp', ?_, h2, rfl, h4⟩
      simp only [Wy.stps] at h1
      cases e : W.stp k s x0 with
      | ok s1 v1 => rw [e] at h1; cases h1
      | bad c1 a1 => rw [e] at h1; cases h1; rfl
    · rintro v L' ⟨h0, s', vs', Lp', cs', h1, rfl, h3, h4, _⟩
      simp only [Wy.stps] at h1
      cases e : W.stp k s x0 with
      | bad c1 a1 => rw [e] at h1; cases h1
      | ok s1 v1 =>
        rw [e] at h1
        cases h1
        have hc : cs' = #[v1] := by
          apply Array.ext_getElem?
          intro q
          have hz := h4.size
          cases q with
          | zero => have := h4.lies 0 v1 rfl; simpa using this
          | succ q => rw [Array.getElem?_eq_none (by simp at hz; omega), Array.getElem?_eq_none (by simp)]
        subst hc
        exact ⟨_, List.perm_middle.symm, h0, _, _, Lp', rfl, rfl, h3⟩
    · rintro u L' h
      exact ⟨L', .refl _, h⟩
  refine OW_enterE (σ := ⟨sl, D, (m, .cells #[x0] E (0, 0)) :: (Lp ++ R)⟩) (by rw [ho]; intro cc h; cases h) (fun a w hH => invoke_run ho hx ha hm a w hH) (by rw [hdst]; exact hd) hF2 (fun v L' ⟨h0, s', x', Lp', h1, h2, h3⟩ => ?_) (fun u L' ⟨q, a, p, s', Lp', h1, h2, h3, h4⟩ => ?_)
  · rw [hdst, h0, h2]; exact hk s' x' Lp' h1 h3
  · rw [h2, h3]; exact hp q a p s' Lp' h1 h4
theorem Qt_nilCheck_m {L : List (Nat × Obj)} {x : Operand} {t f : Nat} {name : String} {v : Value} (ho : o.op = .nilCheck x) (hx : ev sl x = some (.func (.method name) #[.iface t v] #[]) := by exact rfl) (hm : methX c.P t name = some f := by with_reducible assumption) : Qt c sl L o (.func (.method name) #[.iface t v] #[]) :=
  Qt_of_run (by simp [ho]) (fun ρ hρ w _ => by
    have hpos : 0 < Made.depth := by decide
    obtain ⟨q, hq⟩ : ∃ q, c.P.types.size + Made.depth = q + 1 := ⟨c.P.types.size + Made.depth - 1, by omega⟩
    have hnr := nilAhead_run hm q v w
    simp [execOp, ho, hρ x _ hx, hq, hnr])
end
theorem Wy.keepT {P : Program} (W : Wy P) {R : List (Nat × Obj)} {i b : Nat} {cs : Array Value} {E : TypeId} {fr : Nat × Nat} {off : Nat} {k : Fk} {s s' : W.S} {x y : Value} (hT : ∀ q ∈ W.T0, q ∈ R) (hR : R[i]? = some (b, .cells cs E fr)) (hc : cs[off]? = some x) (hs : W.stp k s x = .ok s' y) : ∀ q ∈ W.T0, q ∈ R.set i (b, .cells (cs.setIfInBounds off y) E fr) := by
  rcases W.keeps with h | h
  · rw [h]; intro q hq; cases hq
  · rw [h _ _ _ _ _ hs]
    have e : cs.setIfInBounds off x = cs := by
      apply Array.ext_getElem?
      intro j
      by_cases ej : off = j
      · subst ej
        rw [Array.getElem?_setIfInBounds_self_of_lt (Array.getElem?_eq_some_iff.1 hc).1, hc]
      · rw [Array.getElem?_setIfInBounds_ne ej]
    rw [e, set_same hR]; exact hT
structure Meth (W : Wy Tryz.prog) where
  fw : FuncId
  fn : FuncId
  ft : FuncId
  fo : FuncId
  fh : FuncId
  fm : FuncId
  mw : methX Tryz.prog W.t "anabranch/codec.whole" = some fw
  mn : methX Tryz.prog W.t "anabranch/codec.number" = some fn
  mt : methX Tryz.prog W.t "anabranch/codec.truth" = some ft
  mo : methX Tryz.prog W.t "anabranch/codec.one" = some fo
  mh : methX Tryz.prog W.t "anabranch/codec.here" = some fh
  mm : methX Tryz.prog W.t "anabranch/codec.must" = some fm
  iw : FCall Tryz.prog fw
  jn : FCall Tryz.prog fn
  it : FCall Tryz.prog ft
  io : FCall Tryz.prog fo
  ih : FCall Tryz.prog fh
  im : FCall Tryz.prog fm
  cw : Flat W fw W.v [.ww]
  cn : Flat W fn W.v [.nn]
  ct : Flat W ft W.v [.tt]
  co : Flat W fo W.v [.bb]
  ch : ∀ (s : W.S) (Lp R : List (Nat × Obj)), W.mem s Lp → FnE Tryz.prog fh [W.v] (Lp ++ R) (fun v L' => v = .tuple #[] ∧ ∃ Lp', L' = Lp' ++ R ∧ W.mem (W.hr s) Lp') (fun _ _ => False)
  cm : ∀ (s : W.S) (Lp R : List (Nat × Obj)) (b : Bool) (code : Nat), W.mem s Lp → FnE Tryz.prog fm [W.v, .bool b, .int .i64 code] (Lp ++ R) (fun v L' => v = .tuple #[] ∧ L' = Lp ++ R ∧ W.mst b code s = none) (fun u L' => ∃ c a p, W.mst b code s = some (c, a) ∧ u = flt p ∧ L' = (p, fltO c a) :: (Lp ++ R))
end Go.Proofs.YtakedlockchpcaaGreatDoor
namespace Go.Proofs.YtakedlockchpcaaGreatDoor
abbrev recF : List Fk := [.kk, .ww, .ww, .bb, .tt, .tt]
abbrev opF : List Fk := [.ww, .ww, .ww, .ww]
abbrev accF : List Fk := [.ww, .ww, .nn, .ww, .ww]
abbrev entryF : List Fk := [.ww, .kk, .ww, .ww, .bb, .ww, .ww, .nn, .ww, .ww]
abbrev binF : List Fk := [.ww]
abbrev chF : List Fk := [.ww, .ww]
abbrev ctF : List Fk := [.ww, .ww, .ww, .ww, .ww, .ww, .ww]
abbrev khF : List Fk := [.ww, .ww, .tt]
structure MV where
  kind : Int
  ver : Int
  rc : List Value
  time : Int
  num : Int
  ch : List Value
  bins : List (List Value)
  ct : List Value
  kh : List Value
  ents : List (List Value)
def encCmd (ch : List Value) (bins : List (List Value)) (ct : List Value) : List UInt8 := encs chF ch ++ (encl binF bins ++ encs ctF ct)
def encChunk (kh : List Value) (ents : List (List Value)) : List UInt8 := encs khF kh ++ encl entryF ents
def MV.body (m : MV) : List UInt8 :=
  if m.kind = 0 then encs recF m.rc else if m.kind = 1 then enc (zz m.time) else if m.kind = 2 then enc (zz m.num) else if m.kind = 3 then encCmd m.ch m.bins m.ct else if m.kind = 4 then encChunk m.kh m.ents else []
def MV.enc (m : MV) : List UInt8 := Go.Proofs.YtakedlockchpcaaGreatDoor.enc (zz m.kind) ++ (Go.Proofs.YtakedlockchpcaaGreatDoor.enc (zz m.ver) ++ m.body)
def i64r (x : Int) : Prop := -9223372036854775808 ≤ x ∧ x < 9223372036854775808
structure MV.Ok (m : MV) : Prop where
  kind : i64r m.kind
  ver : i64r m.ver
  rc : Oks recF m.rc
  time : i64r m.time
  num : i64r m.num
  ch : Oks chF m.ch
  bins : ∀ vs ∈ m.bins, Oks binF vs
  ct : Oks ctF m.ct
  kh : Oks khF m.kh
  ents : ∀ vs ∈ m.ents, Oks entryF vs
end Go.Proofs.YtakedlockchpcaaGreatDoor
namespace Go.Proofs.YtakedlockchpcaaGreatDoor
open Go.RowKit
attribute [local irreducible] Fn WC WL WR OW Qt YieldFn QW FnP FnD FnE
section
variable {W : Wy Tryz.prog} (M : Meth W)
include M
theorem small_flat : Flat W 101 W.recv [.ww] := by
  intro s Lp R i b cs E fr off vs hM hT hr hR hv hl hfr
  obtain ⟨x0, vs, rfl, hx, hv⟩ := hv.split
  obtain rfl := hv.nil
  have hc := hl.cons.1
  have hX := get_app (A := Lp) hR
  have iw := M.iw
  have m1 := M.mw
  have hz : off < cs.size := (Array.getElem?_eq_some_iff.1 hc).1
  have hx2 := hx
  obtain ⟨q, rfl, q0, q1⟩ := hx2
  refine FnE_enter Tryz.func101 rfl Tryz.ntmps101 rfl fun g => ?_
  unfold Wy.recv
  repeat (first | refine RQ ?_ | ((first | refine WL_Q ?_); (first | refine QW_of (Qt_nilCheck_m rfl) ?_)) | (refine RE ?_; try intro _) | refine RC ?_ | refine WC_region ?_)
  rename_i mb
  refine WL_op rfl (OW_locI M.mw M.cw hM hT (W.room_le hr (Nat.le_refl _)) hx rfl ?_ ?_)
  · intro s' x' Lp' hs hM'
    obtain ⟨y, rfl, _⟩ := W.stp_ok hs hx
    have hX' : ((mb, Obj.cells #[Value.int .i64 y] 2 (0, 0)) :: (Lp' ++ R))[(Lp'.length + i) + 1]? = some _ := get_app (A := Lp') hR
    repeat (first | refine RQ ?_ | ((first | refine WL_Q ?_); (first | refine QW_of (Qt_nilCheck_m rfl) ?_)) | (refine RE ?_; try intro _) | refine RC ?_ | refine WC_region ?_)
    refine WL_op rfl (OW_store1F (v := .int .i64 y) rfl _ hX' hz (hfr.sub 0 1 (Nat.le_refl _)) (WL_nil ?_))
    refine ⟨.tuple #[], _, Res0 rfl, .cons _ (.refl _), rfl, s', [.int .i64 y], Lp', cs.setIfInBounds off (.int .i64 y), W.stps1_ok hs, ?_, hM', Upd.one _ hz, W.keepT hT hR hc hs⟩
    exact set_app
  · intro c a p s' Lp' hs hM'
    exact ⟨_, rfl, c, a, p, s', Lp', cs, W.stps1_bad hs, rfl, by rw [set_same hR], hM', rfl⟩
theorem key_flat : Flat W 102 W.recv [.kk] := by
  intro s Lp R i b cs E fr off vs hM hT hr hR hv hl hfr
  obtain ⟨x0, vs, rfl, hx, hv⟩ := hv.split
  obtain rfl := hv.nil
  have hc := hl.cons.1
  have hz : off < cs.size := (Array.getElem?_eq_some_iff.1 hc).1
  obtain ⟨q, rfl, q0, q1⟩ := hx
  have hw : IntKind.u64.wrap q = q := wU64 q0 (by omega)
  refine FnE_enter Tryz.func102 rfl Tryz.ntmps102 rfl fun g => ?_
  unfold Wy.recv
  repeat (first | refine RQ ?_ | ((first | refine WL_Q ?_); (first | refine QW_of (Qt_nilCheck_m rfl) ?_)) | (refine RE ?_; try intro _) | refine RC ?_ | refine WC_region ?_)
  have ih := M.ih
  refine WL_op rfl (OW_invE M.mh rfl (M.ch s Lp R hM) ?_ (fun _ _ h => h.elim))
  rintro _ _ ⟨rfl, Lp1, rfl, hM1⟩
  have hX := get_app (A := Lp1) hR
  repeat (first | refine RQ ?_ | ((first | refine WL_Q ?_); (first | refine QW_of (Qt_nilCheck_m rfl) ?_)) | (refine RE ?_; try intro _) | refine RC ?_ | refine WC_region (id := 0) ?_ | refine WC_region (id := 1) ?_ | refine WC_region (id := 3) ?_ | refine WC_region (id := 4) ?_)
  rw [hw]
  repeat (first | refine RQ ?_ | ((first | refine WL_Q ?_); (first | refine QW_of (Qt_nilCheck_m rfl) ?_)) | (refine RE ?_; try intro _) | refine RC ?_ | refine WC_region ?_)
  rename_i mb
  have jn := M.jn
  refine WL_op rfl (OW_locI M.mn M.cn hM1 hT (W.hr_room hr) ⟨q, rfl, q0, by omega⟩ rfl ?_ ?_)
  · intro s' x' Lp' hs hM'
    obtain ⟨y, rfl, y0, y1⟩ := W.stp_ok hs ⟨q, rfl, q0, by omega⟩
    repeat (first | refine RQ ?_ | ((first | refine WL_Q ?_); (first | refine QW_of (Qt_nilCheck_m rfl) ?_)) | (refine RE ?_; try intro _) | refine RC ?_ | refine WC_region ?_)
    have im := M.im
    have hF := (M.cm s' Lp' ((mb, Obj.cells #[Value.int .u64 y] 41 (0, 0)) :: R) (decide (y ≤ 4294967295)) 4 hM')
    refine WL_op rfl (OW_invE M.mm rfl ((hF.dropP (Rp' := fun u L' => ∃ c a p, W.mst (decide (y ≤ 4294967295)) 4 s' = some (c, a) ∧ u = flt p ∧ L' = (p, fltO c a) :: (Lp' ++ R)) (fun u L' ⟨c, a, p, h1, h2, h3⟩ => ⟨(p, fltO c a) :: (Lp' ++ R), by rw [h3]; exact .cons_cons _ (.append (.refl _) (.cons _ (.refl _))), c, a, p, h1, h2, rfl⟩)).perm List.perm_middle (fun v L' h => ⟨_, .refl _, h⟩) (fun v L' h => ⟨_, .refl _, h⟩)) ?_ ?_)
    · rintro _ _ ⟨rfl, rfl, hm⟩
      obtain ⟨hk, y2⟩ := W.key_ok q0 q1 hs hm
      have hX0 : (Lp' ++ ((mb, Obj.cells #[Value.int .u64 y] 41 (0, 0)) :: R))[Lp'.length]? = some _ := get_app (A := Lp') (i := 0) rfl
      have hX' := get_app (A := Lp') (R := (mb, Obj.cells #[Value.int .u64 y] 41 (0, 0)) :: R) (i := i + 1) hR
      have hw2 : IntKind.u32.wrap y = y := by
        simp only [IntKind.wrap, IntKind.bits, IntKind.signed]
        simp; omega
      repeat (first | refine RQ ?_ | ((first | refine WL_Q ?_); (first | refine QW_of (Qt_nilCheck_m rfl) ?_)) | (refine RE ?_; try intro _) | refine RC ?_ | refine WC_region ?_)
      rw [hw2]
      refine WL_op rfl (OW_store1F (v := .int .u32 y) rfl _ hX' hz (hfr.sub 0 1 (Nat.le_refl _)) (WL_nil ?_))
      refine ⟨.tuple #[], Lp' ++ R.set i (b, .cells (cs.setIfInBounds off (.int .u32 y)) E fr), Res0 rfl, ?_, rfl, s', [.int .u32 y], Lp', cs.setIfInBounds off (.int .u32 y), W.stps1_ok hk, rfl, hM', Upd.one _ hz, W.keepT hT hR hc hk⟩
      rw [set_app]
      exact .append (.refl _) (.cons _ (.refl _))
    · rintro _ _ ⟨c, a, p, hm, rfl, rfl⟩
      exact ⟨_, rfl, c, a, p, s', Lp', cs, W.stps1_bad (W.key_must hs hm), rfl, by rw [set_same hR], hM', rfl⟩
  · intro c a p s' Lp' hs hM'
    exact ⟨_, rfl, c, a, p, s', Lp', cs, W.stps1_bad (W.key_bad hs), rfl, by rw [set_same hR], hM', rfl⟩
set_option maxHeartbeats 4000000 in
theorem rec_flat : Flat W 54 W.recv recF := by
  intro s Lp R i b cs E fr off vs hM0 hT0 hr0 hR hv hl hfr
  obtain ⟨x0, vs, rfl, hx0, hv⟩ := hv.split
  obtain ⟨x1, vs, rfl, hx1, hv⟩ := hv.split
  obtain ⟨x2, vs, rfl, hx2, hv⟩ := hv.split
  obtain ⟨x3, vs, rfl, hx3, hv⟩ := hv.split
  obtain ⟨x4, vs, rfl, hx4, hv⟩ := hv.split
  obtain ⟨x5, vs, rfl, hx5, hv⟩ := hv.split
  obtain rfl := hv.nil
  have ho0 : Oks [.kk] [x0] := ⟨hx0, trivial⟩
  have g0 : Lies cs (off + 0) [x0] := hl.cut 0 1
  have ho1 : Oks [.ww] [x1] := ⟨hx1, trivial⟩
  have g1 : Lies cs (off + 1) [x1] := hl.cut 1 1
  have ho2 : Oks [.ww] [x2] := ⟨hx2, trivial⟩
  have g2 : Lies cs (off + 2) [x2] := hl.cut 2 1
  have ho3 : Oks [.bb] [x3] := ⟨hx3, trivial⟩
  have g3 : Lies cs (off + 3) [x3] := hl.cut 3 1
  have ho4 : Oks [.tt] [x4] := ⟨hx4, trivial⟩
  have g4 : Lies cs (off + 4) [x4] := hl.cut 4 1
  have ho5 : Oks [.tt] [x5] := ⟨hx5, trivial⟩
  have g5 : Lies cs (off + 5) [x5] := hl.cut 5 1
  have qw := M.mw
  have pw := M.iw
  have qt := M.mt
  have pt := M.it
  have qb := M.mo
  have pb := M.io
  refine FnE_enter Tryz.func54 rfl Tryz.ntmps54 rfl fun g => ?_
  unfold Wy.recv
  have U0 : Upd cs cs off [] := Upd.refl_of (fun j v h => by simp at h)
  have A0 : W.stps [] s [] = .ok s [] := rfl
  have O0 : Oks [] [] := trivial
  have L0 : ([] : List Value).length = 0 := rfl
  repeat (first | refine RQ ?_ | ((first | refine WL_Q ?_); (first | refine QW_of (Qt_nilCheck_m rfl) ?_)) | refine RC ?_ | refine WC_region (id := 0) ?_)
  have l0 : Lies cs (off + 0) [x0] := fun q v h => by
    rw [U0.rest _ (.inr (by rw [L0]; omega))]
    exact g0 q v h
  refine WL_op rfl ?_
  refine (OW_flatF (key_flat M) hM0 hT0 (W.room_le hr0 (by decide)) hR ho0 l0 (hfr.sub 0 1 (by decide)) rfl ⟨?_, ?_⟩)
  rotate_left
  · intro c a p s' Lp' cs' hs hM' hz
    exact ⟨_, rfl, c, a, p, s', Lp', cs', W.bad_cat [.ww, .ww, .bb, .tt, .tt] [x1, x2, x3, x4, x5] (W.cat_bad A0 O0 hs) (Oks.app O0 ho0), rfl, rfl, hM', hz.trans U0.size⟩
  intro s1 us0 Lp1 cs1 hs0 hM1 hu0 hT1
  have n0 : us0.length = 1 := W.stps_len hs0 ho0
  have U1 := U0.app hu0 (by rw [L0])
  have L1 := (show ([] ++ us0).length = 1 by rw [List.length_append, L0, n0])
  have A1 := W.cat_ok A0 O0 hs0
  have O1 := Oks.app O0 ho0
  have hr1 := W.stps_room (n := 5) hs0 ho0 (W.room_le hr0 (by decide))
  have R1 := get_set_self hR (b, Obj.cells cs1 E fr)
  repeat (first | refine RQ ?_ | ((first | refine WL_Q ?_); (first | refine QW_of (Qt_nilCheck_m rfl) ?_)) | refine RC ?_ | refine WC_region (id := 0) ?_)
  refine WC_draw_sub (id := 1) 8 (.calm 0 <| .calm 1 <| .calm 2 <| .calm 3 <| .calm 4 <| .calm 5 <| .calm 6 <| .must 7 <| .done) mixed (by kernel_rfl) (List.nil_sublist _) ?_
  repeat (first | refine RQr ?_ | ((first | refine WL_Q ?_ | refine WR_Q rfl ?_ | refine WR_late rfl rfl rfl (OW_Q ?_)); (first | refine QW_of (Qt_nilCheck_m rfl) ?_)) | refine RC ?_ | refine RU ?_ | refine WC_draw_all (id := 1) 8 (.calm 0 <| .calm 1 <| .calm 2 <| .calm 3 <| .calm 4 <| .calm 5 <| .calm 6 <| .must 7 <| .done) mixed (by kernel_rfl) ?_)
  have l1 : Lies cs1 (off + 1) [x1] := fun q v h => by
    rw [U1.rest _ (.inr (by rw [L1]; omega))]
    exact g1 q v h
  refine WR_op rfl rfl ?_
  refine (OW_flatI M.mw M.cw hM1 hT1 (W.room_le hr1 (by decide)) R1 hx1 (l1 0 _ rfl) (hfr.sub 1 1 (by decide)) rfl ⟨?_, ?_⟩)
  rotate_left
  · intro c a p s' Lp' cs' hs hM' hz
    exact ⟨_, rfl, c, a, p, s', Lp', cs', W.bad_cat [.ww, .bb, .tt, .tt] [x2, x3, x4, x5] (W.cat_bad A1 O1 hs) (Oks.app O1 ho1), rfl, by rw [List.set_set], hM', hz.trans U1.size⟩
  intro s2 us1 Lp2 cs2 hs1 hM2 hu1 hT2
  have n1 : us1.length = 1 := W.stps_len hs1 ho1
  have U2 := U1.app hu1 (by rw [L1])
  have L2 := (show (([] ++ us0) ++ us1).length = 2 by rw [List.length_append, L1, n1])
  have A2 := W.cat_ok A1 O1 hs1
  have O2 := Oks.app O1 ho1
  have hr2 := W.stps_room (n := 4) hs1 ho1 (W.room_le hr1 (by decide))
  rw [List.set_set] at hT2
  rw [List.set_set]
  have R2 := get_set_self hR (b, Obj.cells cs2 E fr)
  refine ⟨(fun q hq => (by cases hq)), ?_⟩
  repeat (first | refine RQr ?_ | ((first | refine WL_Q ?_ | refine WR_Q rfl ?_ | refine WR_late rfl rfl rfl (OW_Q ?_)); (first | refine QW_of (Qt_nilCheck_m rfl) ?_)) | refine RC ?_ | refine RU ?_ | refine WC_draw_all (id := 1) 8 (.calm 0 <| .calm 1 <| .calm 2 <| .calm 3 <| .calm 4 <| .calm 5 <| .calm 6 <| .must 7 <| .done) mixed (by kernel_rfl) ?_)
  refine WC_draw_sub (id := 2) 8 (.calm 0 <| .calm 1 <| .calm 2 <| .calm 3 <| .calm 4 <| .calm 5 <| .calm 6 <| .must 7 <| .done) mixed (by kernel_rfl) (List.nil_sublist _) ?_
  repeat (first | refine RQr ?_ | ((first | refine WL_Q ?_ | refine WR_Q rfl ?_ | refine WR_late rfl rfl rfl (OW_Q ?_)); (first | refine QW_of (Qt_nilCheck_m rfl) ?_)) | refine RC ?_ | refine RU ?_ | refine WC_draw_all (id := 2) 8 (.calm 0 <| .calm 1 <| .calm 2 <| .calm 3 <| .calm 4 <| .calm 5 <| .calm 6 <| .must 7 <| .done) mixed (by kernel_rfl) ?_)
  have l2 : Lies cs2 (off + 2) [x2] := fun q v h => by
    rw [U2.rest _ (.inr (by rw [L2]; omega))]
    exact g2 q v h
  refine WR_op rfl rfl ?_
  refine (OW_flatI M.mw M.cw hM2 hT2 (W.room_le hr2 (by decide)) R2 hx2 (l2 0 _ rfl) (hfr.sub 2 1 (by decide)) rfl ⟨?_, ?_⟩)
  rotate_left
  · intro c a p s' Lp' cs' hs hM' hz
    exact ⟨_, rfl, c, a, p, s', Lp', cs', W.bad_cat [.bb, .tt, .tt] [x3, x4, x5] (W.cat_bad A2 O2 hs) (Oks.app O2 ho2), rfl, by rw [List.set_set], hM', hz.trans U2.size⟩
  intro s3 us2 Lp3 cs3 hs2 hM3 hu2 hT3
  have n2 : us2.length = 1 := W.stps_len hs2 ho2
  have U3 := U2.app hu2 (by rw [L2])
  have L3 := (show ((([] ++ us0) ++ us1) ++ us2).length = 3 by rw [List.length_append, L2, n2])
  have A3 := W.cat_ok A2 O2 hs2
  have O3 := Oks.app O2 ho2
  have hr3 := W.stps_room (n := 3) hs2 ho2 (W.room_le hr2 (by decide))
  rw [List.set_set] at hT3
  rw [List.set_set]
  have R3 := get_set_self hR (b, Obj.cells cs3 E fr)
  refine ⟨(fun q hq => (by cases hq)), ?_⟩
  repeat (first | refine RQr ?_ | ((first | refine WL_Q ?_ | refine WR_Q rfl ?_ | refine WR_late rfl rfl rfl (OW_Q ?_)); (first | refine QW_of (Qt_nilCheck_m rfl) ?_)) | refine RC ?_ | refine RU ?_ | refine WC_draw_all (id := 2) 8 (.calm 0 <| .calm 1 <| .calm 2 <| .calm 3 <| .calm 4 <| .calm 5 <| .calm 6 <| .must 7 <| .done) mixed (by kernel_rfl) ?_)
  refine WC_draw_sub (id := 3) 8 (.calm 0 <| .calm 1 <| .calm 2 <| .calm 3 <| .calm 4 <| .calm 5 <| .calm 6 <| .must 7 <| .done) mixed (by kernel_rfl) (List.nil_sublist _) ?_
  repeat (first | refine RQr ?_ | ((first | refine WL_Q ?_ | refine WR_Q rfl ?_ | refine WR_late rfl rfl rfl (OW_Q ?_)); (first | refine QW_of (Qt_nilCheck_m rfl) ?_)) | refine RC ?_ | refine RU ?_ | refine WC_draw_all (id := 3) 8 (.calm 0 <| .calm 1 <| .calm 2 <| .calm 3 <| .calm 4 <| .calm 5 <| .calm 6 <| .must 7 <| .done) mixed (by kernel_rfl) ?_)
  have l3 : Lies cs3 (off + 3) [x3] := fun q v h => by
    rw [U3.rest _ (.inr (by rw [L3]; omega))]
    exact g3 q v h
  refine WR_op rfl rfl ?_
  refine (OW_flatI M.mo M.co hM3 hT3 (W.room_le hr3 (by decide)) R3 hx3 (l3 0 _ rfl) (hfr.sub 3 1 (by decide)) rfl ⟨?_, ?_⟩)
  rotate_left
  · intro c a p s' Lp' cs' hs hM' hz
    exact ⟨_, rfl, c, a, p, s', Lp', cs', W.bad_cat [.tt, .tt] [x4, x5] (W.cat_bad A3 O3 hs) (Oks.app O3 ho3), rfl, by rw [List.set_set], hM', hz.trans U3.size⟩
  intro s4 us3 Lp4 cs4 hs3 hM4 hu3 hT4
  have n3 : us3.length = 1 := W.stps_len hs3 ho3
  have U4 := U3.app hu3 (by rw [L3])
  have L4 := (show (((([] ++ us0) ++ us1) ++ us2) ++ us3).length = 4 by rw [List.length_append, L3, n3])
  have A4 := W.cat_ok A3 O3 hs3
  have O4 := Oks.app O3 ho3
  have hr4 := W.stps_room (n := 2) hs3 ho3 (W.room_le hr3 (by decide))
  rw [List.set_set] at hT4
  rw [List.set_set]
  have R4 := get_set_self hR (b, Obj.cells cs4 E fr)
  refine ⟨(fun q hq => (by cases hq)), ?_⟩
  repeat (first | refine RQr ?_ | ((first | refine WL_Q ?_ | refine WR_Q rfl ?_ | refine WR_late rfl rfl rfl (OW_Q ?_)); (first | refine QW_of (Qt_nilCheck_m rfl) ?_)) | refine RC ?_ | refine RU ?_ | refine WC_draw_all (id := 3) 8 (.calm 0 <| .calm 1 <| .calm 2 <| .calm 3 <| .calm 4 <| .calm 5 <| .calm 6 <| .must 7 <| .done) mixed (by kernel_rfl) ?_)
  refine WC_draw_sub (id := 4) 8 (.calm 0 <| .calm 1 <| .calm 2 <| .calm 3 <| .calm 4 <| .calm 5 <| .calm 6 <| .must 7 <| .done) mixed (by kernel_rfl) (List.nil_sublist _) ?_
  repeat (first | refine RQr ?_ | ((first | refine WL_Q ?_ | refine WR_Q rfl ?_ | refine WR_late rfl rfl rfl (OW_Q ?_)); (first | refine QW_of (Qt_nilCheck_m rfl) ?_)) | refine RC ?_ | refine RU ?_ | refine WC_draw_all (id := 4) 8 (.calm 0 <| .calm 1 <| .calm 2 <| .calm 3 <| .calm 4 <| .calm 5 <| .calm 6 <| .must 7 <| .done) mixed (by kernel_rfl) ?_)
  have l4 : Lies cs4 (off + 4) [x4] := fun q v h => by
    rw [U4.rest _ (.inr (by rw [L4]; omega))]
    exact g4 q v h
  refine WR_op rfl rfl ?_
  refine (OW_flatI M.mt M.ct hM4 hT4 (W.room_le hr4 (by decide)) R4 hx4 (l4 0 _ rfl) (hfr.sub 4 1 (by decide)) rfl ⟨?_, ?_⟩)
  rotate_left
  · intro c a p s' Lp' cs' hs hM' hz
    exact ⟨_, rfl, c, a, p, s', Lp', cs', W.bad_cat [.tt] [x5] (W.cat_bad A4 O4 hs) (Oks.app O4 ho4), rfl, by rw [List.set_set], hM', hz.trans U4.size⟩
  intro s5 us4 Lp5 cs5 hs4 hM5 hu4 hT5
  have n4 : us4.length = 1 := W.stps_len hs4 ho4
  have U5 := U4.app hu4 (by rw [L4])
  have L5 := (show ((((([] ++ us0) ++ us1) ++ us2) ++ us3) ++ us4).length = 5 by rw [List.length_append, L4, n4])
  have A5 := W.cat_ok A4 O4 hs4
  have O5 := Oks.app O4 ho4
  have hr5 := W.stps_room (n := 1) hs4 ho4 (W.room_le hr4 (by decide))
  rw [List.set_set] at hT5
  rw [List.set_set]
  have R5 := get_set_self hR (b, Obj.cells cs5 E fr)
  refine ⟨(fun q hq => (by cases hq)), ?_⟩
  repeat (first | refine RQr ?_ | ((first | refine WL_Q ?_ | refine WR_Q rfl ?_ | refine WR_late rfl rfl rfl (OW_Q ?_)); (first | refine QW_of (Qt_nilCheck_m rfl) ?_)) | refine RC ?_ | refine RU ?_ | refine WC_draw_all (id := 4) 8 (.calm 0 <| .calm 1 <| .calm 2 <| .calm 3 <| .calm 4 <| .calm 5 <| .calm 6 <| .must 7 <| .done) mixed (by kernel_rfl) ?_)
  refine WC_draw_sub (id := 5) 8 (.calm 0 <| .calm 1 <| .calm 2 <| .calm 3 <| .calm 4 <| .calm 5 <| .calm 6 <| .must 7 <| .done) mixed (by kernel_rfl) (List.nil_sublist _) ?_
  repeat (first | refine RQr ?_ | ((first | refine WL_Q ?_ | refine WR_Q rfl ?_ | refine WR_late rfl rfl rfl (OW_Q ?_)); (first | refine QW_of (Qt_nilCheck_m rfl) ?_)) | refine RC ?_ | refine RU ?_ | refine WC_draw_all (id := 5) 8 (.calm 0 <| .calm 1 <| .calm 2 <| .calm 3 <| .calm 4 <| .calm 5 <| .calm 6 <| .must 7 <| .done) mixed (by kernel_rfl) ?_)
  have l5 : Lies cs5 (off + 5) [x5] := fun q v h => by
    rw [U5.rest _ (.inr (by rw [L5]; omega))]
    exact g5 q v h
  refine WR_op rfl rfl ?_
  refine (OW_flatI M.mt M.ct hM5 hT5 (W.room_le hr5 (by decide)) R5 hx5 (l5 0 _ rfl) (hfr.sub 5 1 (by decide)) rfl ⟨?_, ?_⟩)
  rotate_left
  · intro c a p s' Lp' cs' hs hM' hz
    exact ⟨_, rfl, c, a, p, s', Lp', cs', W.bad_cat [] [] (W.cat_bad A5 O5 hs) (Oks.app O5 ho5), rfl, by rw [List.set_set], hM', hz.trans U5.size⟩
  intro s6 us5 Lp6 cs6 hs5 hM6 hu5 hT6
  have n5 : us5.length = 1 := W.stps_len hs5 ho5
  have U6 := U5.app hu5 (by rw [L5])
  have L6 := (show (((((([] ++ us0) ++ us1) ++ us2) ++ us3) ++ us4) ++ us5).length = 6 by rw [List.length_append, L5, n5])
  have A6 := W.cat_ok A5 O5 hs5
  have O6 := Oks.app O5 ho5
  have hr6 := W.stps_room (n := 0) hs5 ho5 (W.room_le hr5 (by decide))
  rw [List.set_set] at hT6
  rw [List.set_set]
  have R6 := get_set_self hR (b, Obj.cells cs6 E fr)
  refine ⟨(fun q hq => (by cases hq)), ?_⟩
  repeat (first | refine RQr ?_ | ((first | refine WL_Q ?_ | refine WR_Q rfl ?_ | refine WR_late rfl rfl rfl (OW_Q ?_)); (first | refine QW_of (Qt_nilCheck_m rfl) ?_)) | refine RC ?_ | refine RU ?_ | refine WC_draw_all (id := 5) 8 (.calm 0 <| .calm 1 <| .calm 2 <| .calm 3 <| .calm 4 <| .calm 5 <| .calm 6 <| .must 7 <| .done) mixed (by kernel_rfl) ?_)
  exact ⟨.tuple #[], _, Res0 rfl, .refl _, rfl, s6, _, Lp6, cs6, A6, rfl, hM6, U6, hT6⟩
set_option maxHeartbeats 4000000 in
theorem op_flat : Flat W 59 W.recv opF := by
  intro s Lp R i b cs E fr off vs hM0 hT0 hr0 hR hv hl hfr
  obtain ⟨x0, vs, rfl, hx0, hv⟩ := hv.split
  obtain ⟨x1, vs, rfl, hx1, hv⟩ := hv.split
  obtain ⟨x2, vs, rfl, hx2, hv⟩ := hv.split
  obtain ⟨x3, vs, rfl, hx3, hv⟩ := hv.split
  obtain rfl := hv.nil
  have ho0 : Oks [.ww] [x0] := ⟨hx0, trivial⟩
  have g0 : Lies cs (off + 0) [x0] := hl.cut 0 1
  have ho1 : Oks [.ww] [x1] := ⟨hx1, trivial⟩
  have g1 : Lies cs (off + 1) [x1] := hl.cut 1 1
  have ho2 : Oks [.ww] [x2] := ⟨hx2, trivial⟩
  have g2 : Lies cs (off + 2) [x2] := hl.cut 2 1
  have ho3 : Oks [.ww] [x3] := ⟨hx3, trivial⟩
  have g3 : Lies cs (off + 3) [x3] := hl.cut 3 1
  have qw := M.mw
  have pw := M.iw
  refine FnE_enter Tryz.func59 rfl Tryz.ntmps59 rfl fun g => ?_
  unfold Wy.recv
  have U0 : Upd cs cs off [] := Upd.refl_of (fun j v h => by simp at h)
  have A0 : W.stps [] s [] = .ok s [] := rfl
  have O0 : Oks [] [] := trivial
  have L0 : ([] : List Value).length = 0 := rfl
  repeat (first | refine RQ ?_ | ((first | refine WL_Q ?_); (first | refine QW_of (Qt_nilCheck_m rfl) ?_)) | refine RC ?_ | refine WC_region (id := 0) ?_)
  have l0 : Lies cs (off + 0) [x0] := fun q v h => by
    rw [U0.rest _ (.inr (by rw [L0]; omega))]
    exact g0 q v h
  refine WL_op rfl ?_
  refine (OW_flatF (small_flat M) hM0 hT0 (W.room_le hr0 (by decide)) hR ho0 l0 (hfr.sub 0 1 (by decide)) rfl ⟨?_, ?_⟩)
  rotate_left
  · intro c a p s' Lp' cs' hs hM' hz
    exact ⟨_, rfl, c, a, p, s', Lp', cs', W.bad_cat [.ww, .ww, .ww] [x1, x2, x3] (W.cat_bad A0 O0 hs) (Oks.app O0 ho0), rfl, rfl, hM', hz.trans U0.size⟩
  intro s1 us0 Lp1 cs1 hs0 hM1 hu0 hT1
  have n0 : us0.length = 1 := W.stps_len hs0 ho0
  have U1 := U0.app hu0 (by rw [L0])
  have L1 := (show ([] ++ us0).length = 1 by rw [List.length_append, L0, n0])
  have A1 := W.cat_ok A0 O0 hs0
  have O1 := Oks.app O0 ho0
  have hr1 := W.stps_room (n := 3) hs0 ho0 (W.room_le hr0 (by decide))
  have R1 := get_set_self hR (b, Obj.cells cs1 E fr)
  repeat (first | refine RQ ?_ | ((first | refine WL_Q ?_); (first | refine QW_of (Qt_nilCheck_m rfl) ?_)) | refine RC ?_ | refine WC_region (id := 0) ?_)
  refine WC_draw_sub (id := 1) 8 (.calm 0 <| .calm 1 <| .calm 2 <| .calm 3 <| .calm 4 <| .calm 5 <| .calm 6 <| .must 7 <| .done) mixed (by kernel_rfl) (List.nil_sublist _) ?_
  repeat (first | refine RQr ?_ | ((first | refine WL_Q ?_ | refine WR_Q rfl ?_ | refine WR_late rfl rfl rfl (OW_Q ?_)); (first | refine QW_of (Qt_nilCheck_m rfl) ?_)) | refine RC ?_ | refine RU ?_ | refine WC_draw_all (id := 1) 8 (.calm 0 <| .calm 1 <| .calm 2 <| .calm 3 <| .calm 4 <| .calm 5 <| .calm 6 <| .must 7 <| .done) mixed (by kernel_rfl) ?_)
  have l1 : Lies cs1 (off + 1) [x1] := fun q v h => by
    rw [U1.rest _ (.inr (by rw [L1]; omega))]
    exact g1 q v h
  refine WR_op rfl rfl ?_
  refine (OW_flatI M.mw M.cw hM1 hT1 (W.room_le hr1 (by decide)) R1 hx1 (l1 0 _ rfl) (hfr.sub 1 1 (by decide)) rfl ⟨?_, ?_⟩)
  rotate_left
  · intro c a p s' Lp' cs' hs hM' hz
    exact ⟨_, rfl, c, a, p, s', Lp', cs', W.bad_cat [.ww, .ww] [x2, x3] (W.cat_bad A1 O1 hs) (Oks.app O1 ho1), rfl, by rw [List.set_set], hM', hz.trans U1.size⟩
  intro s2 us1 Lp2 cs2 hs1 hM2 hu1 hT2
  have n1 : us1.length = 1 := W.stps_len hs1 ho1
  have U2 := U1.app hu1 (by rw [L1])
  have L2 := (show (([] ++ us0) ++ us1).length = 2 by rw [List.length_append, L1, n1])
  have A2 := W.cat_ok A1 O1 hs1
  have O2 := Oks.app O1 ho1
  have hr2 := W.stps_room (n := 2) hs1 ho1 (W.room_le hr1 (by decide))
  rw [List.set_set] at hT2
  rw [List.set_set]
  have R2 := get_set_self hR (b, Obj.cells cs2 E fr)
  refine ⟨(fun q hq => (by cases hq)), ?_⟩
  repeat (first | refine RQr ?_ | ((first | refine WL_Q ?_ | refine WR_Q rfl ?_ | refine WR_late rfl rfl rfl (OW_Q ?_)); (first | refine QW_of (Qt_nilCheck_m rfl) ?_)) | refine RC ?_ | refine RU ?_ | refine WC_draw_all (id := 1) 8 (.calm 0 <| .calm 1 <| .calm 2 <| .calm 3 <| .calm 4 <| .calm 5 <| .calm 6 <| .must 7 <| .done) mixed (by kernel_rfl) ?_)
  refine WC_draw_sub (id := 2) 8 (.calm 0 <| .calm 1 <| .calm 2 <| .calm 3 <| .calm 4 <| .calm 5 <| .calm 6 <| .must 7 <| .done) mixed (by kernel_rfl) (List.nil_sublist _) ?_
  repeat (first | refine RQr ?_ | ((first | refine WL_Q ?_ | refine WR_Q rfl ?_ | refine WR_late rfl rfl rfl (OW_Q ?_)); (first | refine QW_of (Qt_nilCheck_m rfl) ?_)) | refine RC ?_ | refine RU ?_ | refine WC_draw_all (id := 2) 8 (.calm 0 <| .calm 1 <| .calm 2 <| .calm 3 <| .calm 4 <| .calm 5 <| .calm 6 <| .must 7 <| .done) mixed (by kernel_rfl) ?_)
  have l2 : Lies cs2 (off + 2) [x2] := fun q v h => by
    rw [U2.rest _ (.inr (by rw [L2]; omega))]
    exact g2 q v h
  refine WR_op rfl rfl ?_
  refine (OW_flatI M.mw M.cw hM2 hT2 (W.room_le hr2 (by decide)) R2 hx2 (l2 0 _ rfl) (hfr.sub 2 1 (by decide)) rfl ⟨?_, ?_⟩)
  rotate_left
  · intro c a p s' Lp' cs' hs hM' hz
    exact ⟨_, rfl, c, a, p, s', Lp', cs', W.bad_cat [.ww] [x3] (W.cat_bad A2 O2 hs) (Oks.app O2 ho2), rfl, by rw [List.set_set], hM', hz.trans U2.size⟩
  intro s3 us2 Lp3 cs3 hs2 hM3 hu2 hT3
  have n2 : us2.length = 1 := W.stps_len hs2 ho2
  have U3 := U2.app hu2 (by rw [L2])
  have L3 := (show ((([] ++ us0) ++ us1) ++ us2).length = 3 by rw [List.length_append, L2, n2])
  have A3 := W.cat_ok A2 O2 hs2
  have O3 := Oks.app O2 ho2
  have hr3 := W.stps_room (n := 1) hs2 ho2 (W.room_le hr2 (by decide))
  rw [List.set_set] at hT3
  rw [List.set_set]
  have R3 := get_set_self hR (b, Obj.cells cs3 E fr)
  refine ⟨(fun q hq => (by cases hq)), ?_⟩
  repeat (first | refine RQr ?_ | ((first | refine WL_Q ?_ | refine WR_Q rfl ?_ | refine WR_late rfl rfl rfl (OW_Q ?_)); (first | refine QW_of (Qt_nilCheck_m rfl) ?_)) | refine RC ?_ | refine RU ?_ | refine WC_draw_all (id := 2) 8 (.calm 0 <| .calm 1 <| .calm 2 <| .calm 3 <| .calm 4 <| .calm 5 <| .calm 6 <| .must 7 <| .done) mixed (by kernel_rfl) ?_)
  repeat (first | refine RQ ?_ | ((first | refine WL_Q ?_); (first | refine QW_of (Qt_nilCheck_m rfl) ?_)) | refine RC ?_ | refine WC_region (id := 3) ?_)
  have l3 : Lies cs3 (off + 3) [x3] := fun q v h => by
    rw [U3.rest _ (.inr (by rw [L3]; omega))]
    exact g3 q v h
  refine WL_op rfl ?_
  refine (OW_flatF (small_flat M) hM3 hT3 (W.room_le hr3 (by decide)) R3 ho3 l3 (hfr.sub 3 1 (by decide)) rfl ⟨?_, ?_⟩)
  rotate_left
  · intro c a p s' Lp' cs' hs hM' hz
    exact ⟨_, rfl, c, a, p, s', Lp', cs', W.bad_cat [] [] (W.cat_bad A3 O3 hs) (Oks.app O3 ho3), rfl, by rw [List.set_set], hM', hz.trans U3.size⟩
  intro s4 us3 Lp4 cs4 hs3 hM4 hu3 hT4
  have n3 : us3.length = 1 := W.stps_len hs3 ho3
  have U4 := U3.app hu3 (by rw [L3])
  have L4 := (show (((([] ++ us0) ++ us1) ++ us2) ++ us3).length = 4 by rw [List.length_append, L3, n3])
  have A4 := W.cat_ok A3 O3 hs3
  have O4 := Oks.app O3 ho3
  have hr4 := W.stps_room (n := 0) hs3 ho3 (W.room_le hr3 (by decide))
  rw [List.set_set] at hT4
  rw [List.set_set]
  have R4 := get_set_self hR (b, Obj.cells cs4 E fr)
  repeat (first | refine RQ ?_ | ((first | refine WL_Q ?_); (first | refine QW_of (Qt_nilCheck_m rfl) ?_)) | refine RC ?_ | refine WC_region (id := 3) ?_)
  exact ⟨.tuple #[], _, Res0 rfl, .refl _, rfl, s4, _, Lp4, cs4, A4, rfl, hM4, U4, hT4⟩
set_option maxHeartbeats 4000000 in
theorem acc_flat : Flat W 63 W.recv accF := by
  intro s Lp R i b cs E fr off vs hM0 hT0 hr0 hR hv hl hfr
  obtain ⟨x0, vs, rfl, hx0, hv⟩ := hv.split
  obtain ⟨x1, vs, rfl, hx1, hv⟩ := hv.split
  obtain ⟨x2, vs, rfl, hx2, hv⟩ := hv.split
  obtain ⟨x3, vs, rfl, hx3, hv⟩ := hv.split
  obtain ⟨x4, vs, rfl, hx4, hv⟩ := hv.split
  obtain rfl := hv.nil
  have ho0 : Oks [.ww] [x0] := ⟨hx0, trivial⟩
  have g0 : Lies cs (off + 0) [x0] := hl.cut 0 1
  have ho1 : Oks [.ww] [x1] := ⟨hx1, trivial⟩
  have g1 : Lies cs (off + 1) [x1] := hl.cut 1 1
  have ho2 : Oks [.nn] [x2] := ⟨hx2, trivial⟩
  have g2 : Lies cs (off + 2) [x2] := hl.cut 2 1
  have ho3 : Oks [.ww] [x3] := ⟨hx3, trivial⟩
  have g3 : Lies cs (off + 3) [x3] := hl.cut 3 1
  have ho4 : Oks [.ww] [x4] := ⟨hx4, trivial⟩
  have g4 : Lies cs (off + 4) [x4] := hl.cut 4 1
  have qw := M.mw
  have pw := M.iw
  have qn := M.mn
  have pn := M.jn
  refine FnE_enter Tryz.func63 rfl Tryz.ntmps63 rfl fun g => ?_
  unfold Wy.recv
  have U0 : Upd cs cs off [] := Upd.refl_of (fun j v h => by simp at h)
  have A0 : W.stps [] s [] = .ok s [] := rfl
  have O0 : Oks [] [] := trivial
  have L0 : ([] : List Value).length = 0 := rfl
  repeat (first | refine RQ ?_ | ((first | refine WL_Q ?_); (first | refine QW_of (Qt_nilCheck_m rfl) ?_)) | refine RC ?_)
  refine WC_draw_sub (id := 0) 8 (.calm 0 <| .calm 1 <| .calm 2 <| .calm 3 <| .calm 4 <| .calm 5 <| .calm 6 <| .must 7 <| .done) mixed (by kernel_rfl) (List.nil_sublist _) ?_
  repeat (first | refine RQr ?_ | ((first | refine WL_Q ?_ | refine WR_Q rfl ?_ | refine WR_late rfl rfl rfl (OW_Q ?_)); (first | refine QW_of (Qt_nilCheck_m rfl) ?_)) | refine RC ?_ | refine RU ?_ | refine WC_draw_all (id := 0) 8 (.calm 0 <| .calm 1 <| .calm 2 <| .calm 3 <| .calm 4 <| .calm 5 <| .calm 6 <| .must 7 <| .done) mixed (by kernel_rfl) ?_)
  have l0 : Lies cs (off + 0) [x0] := fun q v h => by
    rw [U0.rest _ (.inr (by rw [L0]; omega))]
    exact g0 q v h
  refine WR_op rfl rfl ?_
  refine (OW_flatI M.mw M.cw hM0 hT0 (W.room_le hr0 (by decide)) hR hx0 (l0 0 _ rfl) (hfr.sub 0 1 (by decide)) rfl ⟨?_, ?_⟩)
  rotate_left
  · intro c a p s' Lp' cs' hs hM' hz
    exact ⟨_, rfl, c, a, p, s', Lp', cs', W.bad_cat [.ww, .nn, .ww, .ww] [x1, x2, x3, x4] (W.cat_bad A0 O0 hs) (Oks.app O0 ho0), rfl, rfl, hM', hz.trans U0.size⟩
  intro s1 us0 Lp1 cs1 hs0 hM1 hu0 hT1
  have n0 : us0.length = 1 := W.stps_len hs0 ho0
  have U1 := U0.app hu0 (by rw [L0])
  have L1 := (show ([] ++ us0).length = 1 by rw [List.length_append, L0, n0])
  have A1 := W.cat_ok A0 O0 hs0
  have O1 := Oks.app O0 ho0
  have hr1 := W.stps_room (n := 4) hs0 ho0 (W.room_le hr0 (by decide))
  have R1 := get_set_self hR (b, Obj.cells cs1 E fr)
  refine ⟨(fun q hq => (by cases hq)), ?_⟩
  repeat (first | refine RQr ?_ | ((first | refine WL_Q ?_ | refine WR_Q rfl ?_ | refine WR_late rfl rfl rfl (OW_Q ?_)); (first | refine QW_of (Qt_nilCheck_m rfl) ?_)) | refine RC ?_ | refine RU ?_ | refine WC_draw_all (id := 0) 8 (.calm 0 <| .calm 1 <| .calm 2 <| .calm 3 <| .calm 4 <| .calm 5 <| .calm 6 <| .must 7 <| .done) mixed (by kernel_rfl) ?_)
  refine WC_draw_sub (id := 1) 8 (.calm 0 <| .calm 1 <| .calm 2 <| .calm 3 <| .calm 4 <| .calm 5 <| .calm 6 <| .must 7 <| .done) mixed (by kernel_rfl) (List.nil_sublist _) ?_
  repeat (first | refine RQr ?_ | ((first | refine WL_Q ?_ | refine WR_Q rfl ?_ | refine WR_late rfl rfl rfl (OW_Q ?_)); (first | refine QW_of (Qt_nilCheck_m rfl) ?_)) | refine RC ?_ | refine RU ?_ | refine WC_draw_all (id := 1) 8 (.calm 0 <| .calm 1 <| .calm 2 <| .calm 3 <| .calm 4 <| .calm 5 <| .calm 6 <| .must 7 <| .done) mixed (by kernel_rfl) ?_)
  have l1 : Lies cs1 (off + 1) [x1] := fun q v h => by
    rw [U1.rest _ (.inr (by rw [L1]; omega))]
    exact g1 q v h
  refine WR_op rfl rfl ?_
  refine (OW_flatI M.mw M.cw hM1 hT1 (W.room_le hr1 (by decide)) R1 hx1 (l1 0 _ rfl) (hfr.sub 1 1 (by decide)) rfl ⟨?_, ?_⟩)
  rotate_left
  · intro c a p s' Lp' cs' hs hM' hz
    exact ⟨_, rfl, c, a, p, s', Lp', cs', W.bad_cat [.nn, .ww, .ww] [x2, x3, x4] (W.cat_bad A1 O1 hs) (Oks.app O1 ho1), rfl, by rw [List.set_set], hM', hz.trans U1.size⟩
  intro s2 us1 Lp2 cs2 hs1 hM2 hu1 hT2
  have n1 : us1.length = 1 := W.stps_len hs1 ho1
  have U2 := U1.app hu1 (by rw [L1])
  have L2 := (show (([] ++ us0) ++ us1).length = 2 by rw [List.length_append, L1, n1])
  have A2 := W.cat_ok A1 O1 hs1
  have O2 := Oks.app O1 ho1
  have hr2 := W.stps_room (n := 3) hs1 ho1 (W.room_le hr1 (by decide))
  rw [List.set_set] at hT2
  rw [List.set_set]
  have R2 := get_set_self hR (b, Obj.cells cs2 E fr)
  refine ⟨(fun q hq => (by cases hq)), ?_⟩
  repeat (first | refine RQr ?_ | ((first | refine WL_Q ?_ | refine WR_Q rfl ?_ | refine WR_late rfl rfl rfl (OW_Q ?_)); (first | refine QW_of (Qt_nilCheck_m rfl) ?_)) | refine RC ?_ | refine RU ?_ | refine WC_draw_all (id := 1) 8 (.calm 0 <| .calm 1 <| .calm 2 <| .calm 3 <| .calm 4 <| .calm 5 <| .calm 6 <| .must 7 <| .done) mixed (by kernel_rfl) ?_)
  refine WC_draw_sub (id := 2) 8 (.calm 0 <| .calm 1 <| .calm 2 <| .calm 3 <| .calm 4 <| .calm 5 <| .calm 6 <| .must 7 <| .done) mixed (by kernel_rfl) (List.nil_sublist _) ?_
  repeat (first | refine RQr ?_ | ((first | refine WL_Q ?_ | refine WR_Q rfl ?_ | refine WR_late rfl rfl rfl (OW_Q ?_)); (first | refine QW_of (Qt_nilCheck_m rfl) ?_)) | refine RC ?_ | refine RU ?_ | refine WC_draw_all (id := 2) 8 (.calm 0 <| .calm 1 <| .calm 2 <| .calm 3 <| .calm 4 <| .calm 5 <| .calm 6 <| .must 7 <| .done) mixed (by kernel_rfl) ?_)
  have l2 : Lies cs2 (off + 2) [x2] := fun q v h => by
    rw [U2.rest _ (.inr (by rw [L2]; omega))]
    exact g2 q v h
  refine WR_op rfl rfl ?_
  refine (OW_flatI M.mn M.cn hM2 hT2 (W.room_le hr2 (by decide)) R2 hx2 (l2 0 _ rfl) (hfr.sub 2 1 (by decide)) rfl ⟨?_, ?_⟩)
  rotate_left
  · intro c a p s' Lp' cs' hs hM' hz
    exact ⟨_, rfl, c, a, p, s', Lp', cs', W.bad_cat [.ww, .ww] [x3, x4] (W.cat_bad A2 O2 hs) (Oks.app O2 ho2), rfl, by rw [List.set_set], hM', hz.trans U2.size⟩
  intro s3 us2 Lp3 cs3 hs2 hM3 hu2 hT3
  have n2 : us2.length = 1 := W.stps_len hs2 ho2
  have U3 := U2.app hu2 (by rw [L2])
  have L3 := (show ((([] ++ us0) ++ us1) ++ us2).length = 3 by rw [List.length_append, L2, n2])
  have A3 := W.cat_ok A2 O2 hs2
  have O3 := Oks.app O2 ho2
  have hr3 := W.stps_room (n := 2) hs2 ho2 (W.room_le hr2 (by decide))
  rw [List.set_set] at hT3
  rw [List.set_set]
  have R3 := get_set_self hR (b, Obj.cells cs3 E fr)
  refine ⟨(fun q hq => (by cases hq)), ?_⟩
  repeat (first | refine RQr ?_ | ((first | refine WL_Q ?_ | refine WR_Q rfl ?_ | refine WR_late rfl rfl rfl (OW_Q ?_)); (first | refine QW_of (Qt_nilCheck_m rfl) ?_)) | refine RC ?_ | refine RU ?_ | refine WC_draw_all (id := 2) 8 (.calm 0 <| .calm 1 <| .calm 2 <| .calm 3 <| .calm 4 <| .calm 5 <| .calm 6 <| .must 7 <| .done) mixed (by kernel_rfl) ?_)
  refine WC_draw_sub (id := 3) 8 (.calm 0 <| .calm 1 <| .calm 2 <| .calm 3 <| .calm 4 <| .calm 5 <| .calm 6 <| .must 7 <| .done) mixed (by kernel_rfl) (List.nil_sublist _) ?_
  repeat (first | refine RQr ?_ | ((first | refine WL_Q ?_ | refine WR_Q rfl ?_ | refine WR_late rfl rfl rfl (OW_Q ?_)); (first | refine QW_of (Qt_nilCheck_m rfl) ?_)) | refine RC ?_ | refine RU ?_ | refine WC_draw_all (id := 3) 8 (.calm 0 <| .calm 1 <| .calm 2 <| .calm 3 <| .calm 4 <| .calm 5 <| .calm 6 <| .must 7 <| .done) mixed (by kernel_rfl) ?_)
  have l3 : Lies cs3 (off + 3) [x3] := fun q v h => by
    rw [U3.rest _ (.inr (by rw [L3]; omega))]
    exact g3 q v h
  refine WR_op rfl rfl ?_
  refine (OW_flatI M.mw M.cw hM3 hT3 (W.room_le hr3 (by decide)) R3 hx3 (l3 0 _ rfl) (hfr.sub 3 1 (by decide)) rfl ⟨?_, ?_⟩)
  rotate_left
  · intro c a p s' Lp' cs' hs hM' hz
    exact ⟨_, rfl, c, a, p, s', Lp', cs', W.bad_cat [.ww] [x4] (W.cat_bad A3 O3 hs) (Oks.app O3 ho3), rfl, by rw [List.set_set], hM', hz.trans U3.size⟩
  intro s4 us3 Lp4 cs4 hs3 hM4 hu3 hT4
  have n3 : us3.length = 1 := W.stps_len hs3 ho3
  have U4 := U3.app hu3 (by rw [L3])
  have L4 := (show (((([] ++ us0) ++ us1) ++ us2) ++ us3).length = 4 by rw [List.length_append, L3, n3])
  have A4 := W.cat_ok A3 O3 hs3
  have O4 := Oks.app O3 ho3
  have hr4 := W.stps_room (n := 1) hs3 ho3 (W.room_le hr3 (by decide))
  rw [List.set_set] at hT4
  rw [List.set_set]
  have R4 := get_set_self hR (b, Obj.cells cs4 E fr)
  refine ⟨(fun q hq => (by cases hq)), ?_⟩
  repeat (first | refine RQr ?_ | ((first | refine WL_Q ?_ | refine WR_Q rfl ?_ | refine WR_late rfl rfl rfl (OW_Q ?_)); (first | refine QW_of (Qt_nilCheck_m rfl) ?_)) | refine RC ?_ | refine RU ?_ | refine WC_draw_all (id := 3) 8 (.calm 0 <| .calm 1 <| .calm 2 <| .calm 3 <| .calm 4 <| .calm 5 <| .calm 6 <| .must 7 <| .done) mixed (by kernel_rfl) ?_)
  refine WC_draw_sub (id := 4) 8 (.calm 0 <| .calm 1 <| .calm 2 <| .calm 3 <| .calm 4 <| .calm 5 <| .calm 6 <| .must 7 <| .done) mixed (by kernel_rfl) (List.nil_sublist _) ?_
  repeat (first | refine RQr ?_ | ((first | refine WL_Q ?_ | refine WR_Q rfl ?_ | refine WR_late rfl rfl rfl (OW_Q ?_)); (first | refine QW_of (Qt_nilCheck_m rfl) ?_)) | refine RC ?_ | refine RU ?_ | refine WC_draw_all (id := 4) 8 (.calm 0 <| .calm 1 <| .calm 2 <| .calm 3 <| .calm 4 <| .calm 5 <| .calm 6 <| .must 7 <| .done) mixed (by kernel_rfl) ?_)
  have l4 : Lies cs4 (off + 4) [x4] := fun q v h => by
    rw [U4.rest _ (.inr (by rw [L4]; omega))]
    exact g4 q v h
  refine WR_op rfl rfl ?_
  refine (OW_flatI M.mw M.cw hM4 hT4 (W.room_le hr4 (by decide)) R4 hx4 (l4 0 _ rfl) (hfr.sub 4 1 (by decide)) rfl ⟨?_, ?_⟩)
  rotate_left
  · intro c a p s' Lp' cs' hs hM' hz
    exact ⟨_, rfl, c, a, p, s', Lp', cs', W.bad_cat [] [] (W.cat_bad A4 O4 hs) (Oks.app O4 ho4), rfl, by rw [List.set_set], hM', hz.trans U4.size⟩
  intro s5 us4 Lp5 cs5 hs4 hM5 hu4 hT5
  have n4 : us4.length = 1 := W.stps_len hs4 ho4
  have U5 := U4.app hu4 (by rw [L4])
  have L5 := (show ((((([] ++ us0) ++ us1) ++ us2) ++ us3) ++ us4).length = 5 by rw [List.length_append, L4, n4])
  have A5 := W.cat_ok A4 O4 hs4
  have O5 := Oks.app O4 ho4
  have hr5 := W.stps_room (n := 0) hs4 ho4 (W.room_le hr4 (by decide))
  rw [List.set_set] at hT5
  rw [List.set_set]
  have R5 := get_set_self hR (b, Obj.cells cs5 E fr)
  refine ⟨(fun q hq => (by cases hq)), ?_⟩
  repeat (first | refine RQr ?_ | ((first | refine WL_Q ?_ | refine WR_Q rfl ?_ | refine WR_late rfl rfl rfl (OW_Q ?_)); (first | refine QW_of (Qt_nilCheck_m rfl) ?_)) | refine RC ?_ | refine RU ?_ | refine WC_draw_all (id := 4) 8 (.calm 0 <| .calm 1 <| .calm 2 <| .calm 3 <| .calm 4 <| .calm 5 <| .calm 6 <| .must 7 <| .done) mixed (by kernel_rfl) ?_)
  exact ⟨.tuple #[], _, Res0 rfl, .refl _, rfl, s5, _, Lp5, cs5, A5, rfl, hM5, U5, hT5⟩
set_option maxHeartbeats 4000000 in
theorem entry_flat : Flat W 61 W.recv entryF := by
  intro s Lp R i b cs E fr off vs hM0 hT0 hr0 hR hv hl hfr
  obtain ⟨x0, vs, rfl, hx0, hv⟩ := hv.split
  obtain ⟨x1, vs, rfl, hx1, hv⟩ := hv.split
  obtain ⟨x2, vs, rfl, hx2, hv⟩ := hv.split
  obtain ⟨x3, vs, rfl, hx3, hv⟩ := hv.split
  obtain ⟨x4, vs, rfl, hx4, hv⟩ := hv.split
  obtain ⟨x5, vs, rfl, hx5, hv⟩ := hv.split
  obtain ⟨x6, vs, rfl, hx6, hv⟩ := hv.split
  obtain ⟨x7, vs, rfl, hx7, hv⟩ := hv.split
  obtain ⟨x8, vs, rfl, hx8, hv⟩ := hv.split
  obtain ⟨x9, vs, rfl, hx9, hv⟩ := hv.split
  obtain rfl := hv.nil
  have ho0 : Oks [.ww] [x0] := ⟨hx0, trivial⟩
  have g0 : Lies cs (off + 0) [x0] := hl.cut 0 1
  have ho1 : Oks [.kk] [x1] := ⟨hx1, trivial⟩
  have g1 : Lies cs (off + 1) [x1] := hl.cut 1 1
  have ho2 : Oks [.ww] [x2] := ⟨hx2, trivial⟩
  have g2 : Lies cs (off + 2) [x2] := hl.cut 2 1
  have ho3 : Oks [.ww] [x3] := ⟨hx3, trivial⟩
  have g3 : Lies cs (off + 3) [x3] := hl.cut 3 1
  have ho4 : Oks [.bb] [x4] := ⟨hx4, trivial⟩
  have g4 : Lies cs (off + 4) [x4] := hl.cut 4 1
  have ho5 : Oks [.ww, .ww, .nn, .ww, .ww] [x5, x6, x7, x8, x9] := ⟨hx5, hx6, hx7, hx8, hx9, trivial⟩
  have g5 : Lies cs (off + 5) [x5, x6, x7, x8, x9] := hl.cut 5 5
  have qw := M.mw
  have pw := M.iw
  have qb := M.mo
  have pb := M.io
  refine FnE_enter Tryz.func61 rfl Tryz.ntmps61 rfl fun g => ?_
  unfold Wy.recv
  have U0 : Upd cs cs off [] := Upd.refl_of (fun j v h => by simp at h)
  have A0 : W.stps [] s [] = .ok s [] := rfl
  have O0 : Oks [] [] := trivial
  have L0 : ([] : List Value).length = 0 := rfl
  repeat (first | refine RQ ?_ | ((first | refine WL_Q ?_); (first | refine QW_of (Qt_nilCheck_m rfl) ?_)) | refine RC ?_ | refine WC_region (id := 0) ?_)
  have l0 : Lies cs (off + 0) [x0] := fun q v h => by
    rw [U0.rest _ (.inr (by rw [L0]; omega))]
    exact g0 q v h
  refine WL_op rfl ?_
  refine (OW_flatF (small_flat M) hM0 hT0 (W.room_le hr0 (by decide)) hR ho0 l0 (hfr.sub 0 1 (by decide)) rfl ⟨?_, ?_⟩)
  rotate_left
  · intro c a p s' Lp' cs' hs hM' hz
    exact ⟨_, rfl, c, a, p, s', Lp', cs', W.bad_cat [.kk, .ww, .ww, .bb, .ww, .ww, .nn, .ww, .ww] [x1, x2, x3, x4, x5, x6, x7, x8, x9] (W.cat_bad A0 O0 hs) (Oks.app O0 ho0), rfl, rfl, hM', hz.trans U0.size⟩
  intro s1 us0 Lp1 cs1 hs0 hM1 hu0 hT1
  have n0 : us0.length = 1 := W.stps_len hs0 ho0
  have U1 := U0.app hu0 (by rw [L0])
  have L1 := (show ([] ++ us0).length = 1 by rw [List.length_append, L0, n0])
  have A1 := W.cat_ok A0 O0 hs0
  have O1 := Oks.app O0 ho0
  have hr1 := W.stps_room (n := 9) hs0 ho0 (W.room_le hr0 (by decide))
  have R1 := get_set_self hR (b, Obj.cells cs1 E fr)
  repeat (first | refine RQ ?_ | ((first | refine WL_Q ?_); (first | refine QW_of (Qt_nilCheck_m rfl) ?_)) | refine RC ?_ | refine WC_region (id := 0) ?_)
  repeat (first | refine RQ ?_ | ((first | refine WL_Q ?_); (first | refine QW_of (Qt_nilCheck_m rfl) ?_)) | refine RC ?_ | refine WC_region (id := 1) ?_)
  have l1 : Lies cs1 (off + 1) [x1] := fun q v h => by
    rw [U1.rest _ (.inr (by rw [L1]; omega))]
    exact g1 q v h
  refine WL_op rfl ?_
  refine (OW_flatF (key_flat M) hM1 hT1 (W.room_le hr1 (by decide)) R1 ho1 l1 (hfr.sub 1 1 (by decide)) rfl ⟨?_, ?_⟩)
  rotate_left
  · intro c a p s' Lp' cs' hs hM' hz
    exact ⟨_, rfl, c, a, p, s', Lp', cs', W.bad_cat [.ww, .ww, .bb, .ww, .ww, .nn, .ww, .ww] [x2, x3, x4, x5, x6, x7, x8, x9] (W.cat_bad A1 O1 hs) (Oks.app O1 ho1), rfl, by rw [List.set_set], hM', hz.trans U1.size⟩
  intro s2 us1 Lp2 cs2 hs1 hM2 hu1 hT2
  have n1 : us1.length = 1 := W.stps_len hs1 ho1
  have U2 := U1.app hu1 (by rw [L1])
  have L2 := (show (([] ++ us0) ++ us1).length = 2 by rw [List.length_append, L1, n1])
  have A2 := W.cat_ok A1 O1 hs1
  have O2 := Oks.app O1 ho1
  have hr2 := W.stps_room (n := 8) hs1 ho1 (W.room_le hr1 (by decide))
  rw [List.set_set] at hT2
  rw [List.set_set]
  have R2 := get_set_self hR (b, Obj.cells cs2 E fr)
  repeat (first | refine RQ ?_ | ((first | refine WL_Q ?_); (first | refine QW_of (Qt_nilCheck_m rfl) ?_)) | refine RC ?_ | refine WC_region (id := 1) ?_)
  refine WC_draw_sub (id := 2) 8 (.calm 0 <| .calm 1 <| .calm 2 <| .calm 3 <| .calm 4 <| .calm 5 <| .calm 6 <| .must 7 <| .done) mixed (by kernel_rfl) (List.nil_sublist _) ?_
  repeat (first | refine RQr ?_ | ((first | refine WL_Q ?_ | refine WR_Q rfl ?_ | refine WR_late rfl rfl rfl (OW_Q ?_)); (first | refine QW_of (Qt_nilCheck_m rfl) ?_)) | refine RC ?_ | refine RU ?_ | refine WC_draw_all (id := 2) 8 (.calm 0 <| .calm 1 <| .calm 2 <| .calm 3 <| .calm 4 <| .calm 5 <| .calm 6 <| .must 7 <| .done) mixed (by kernel_rfl) ?_)
  have l2 : Lies cs2 (off + 2) [x2] := fun q v h => by
    rw [U2.rest _ (.inr (by rw [L2]; omega))]
    exact g2 q v h
  refine WR_op rfl rfl ?_
  refine (OW_flatI M.mw M.cw hM2 hT2 (W.room_le hr2 (by decide)) R2 hx2 (l2 0 _ rfl) (hfr.sub 2 1 (by decide)) rfl ⟨?_, ?_⟩)
  rotate_left
  · intro c a p s' Lp' cs' hs hM' hz
    exact ⟨_, rfl, c, a, p, s', Lp', cs', W.bad_cat [.ww, .bb, .ww, .ww, .nn, .ww, .ww] [x3, x4, x5, x6, x7, x8, x9] (W.cat_bad A2 O2 hs) (Oks.app O2 ho2), rfl, by rw [List.set_set], hM', hz.trans U2.size⟩
  intro s3 us2 Lp3 cs3 hs2 hM3 hu2 hT3
  have n2 : us2.length = 1 := W.stps_len hs2 ho2
  have U3 := U2.app hu2 (by rw [L2])
  have L3 := (show ((([] ++ us0) ++ us1) ++ us2).length = 3 by rw [List.length_append, L2, n2])
  have A3 := W.cat_ok A2 O2 hs2
  have O3 := Oks.app O2 ho2
  have hr3 := W.stps_room (n := 7) hs2 ho2 (W.room_le hr2 (by decide))
  rw [List.set_set] at hT3
  rw [List.set_set]
  have R3 := get_set_self hR (b, Obj.cells cs3 E fr)
  refine ⟨(fun q hq => (by cases hq)), ?_⟩
  repeat (first | refine RQr ?_ | ((first | refine WL_Q ?_ | refine WR_Q rfl ?_ | refine WR_late rfl rfl rfl (OW_Q ?_)); (first | refine QW_of (Qt_nilCheck_m rfl) ?_)) | refine RC ?_ | refine RU ?_ | refine WC_draw_all (id := 2) 8 (.calm 0 <| .calm 1 <| .calm 2 <| .calm 3 <| .calm 4 <| .calm 5 <| .calm 6 <| .must 7 <| .done) mixed (by kernel_rfl) ?_)
  refine WC_draw_sub (id := 3) 8 (.calm 0 <| .calm 1 <| .calm 2 <| .calm 3 <| .calm 4 <| .calm 5 <| .calm 6 <| .must 7 <| .done) mixed (by kernel_rfl) (List.nil_sublist _) ?_
  repeat (first | refine RQr ?_ | ((first | refine WL_Q ?_ | refine WR_Q rfl ?_ | refine WR_late rfl rfl rfl (OW_Q ?_)); (first | refine QW_of (Qt_nilCheck_m rfl) ?_)) | refine RC ?_ | refine RU ?_ | refine WC_draw_all (id := 3) 8 (.calm 0 <| .calm 1 <| .calm 2 <| .calm 3 <| .calm 4 <| .calm 5 <| .calm 6 <| .must 7 <| .done) mixed (by kernel_rfl) ?_)
  have l3 : Lies cs3 (off + 3) [x3] := fun q v h => by
    rw [U3.rest _ (.inr (by rw [L3]; omega))]
    exact g3 q v h
  refine WR_op rfl rfl ?_
  refine (OW_flatI M.mw M.cw hM3 hT3 (W.room_le hr3 (by decide)) R3 hx3 (l3 0 _ rfl) (hfr.sub 3 1 (by decide)) rfl ⟨?_, ?_⟩)
  rotate_left
  · intro c a p s' Lp' cs' hs hM' hz
    exact ⟨_, rfl, c, a, p, s', Lp', cs', W.bad_cat [.bb, .ww, .ww, .nn, .ww, .ww] [x4, x5, x6, x7, x8, x9] (W.cat_bad A3 O3 hs) (Oks.app O3 ho3), rfl, by rw [List.set_set], hM', hz.trans U3.size⟩
  intro s4 us3 Lp4 cs4 hs3 hM4 hu3 hT4
  have n3 : us3.length = 1 := W.stps_len hs3 ho3
  have U4 := U3.app hu3 (by rw [L3])
  have L4 := (show (((([] ++ us0) ++ us1) ++ us2) ++ us3).length = 4 by rw [List.length_append, L3, n3])
  have A4 := W.cat_ok A3 O3 hs3
  have O4 := Oks.app O3 ho3
  have hr4 := W.stps_room (n := 6) hs3 ho3 (W.room_le hr3 (by decide))
  rw [List.set_set] at hT4
  rw [List.set_set]
  have R4 := get_set_self hR (b, Obj.cells cs4 E fr)
  refine ⟨(fun q hq => (by cases hq)), ?_⟩
  repeat (first | refine RQr ?_ | ((first | refine WL_Q ?_ | refine WR_Q rfl ?_ | refine WR_late rfl rfl rfl (OW_Q ?_)); (first | refine QW_of (Qt_nilCheck_m rfl) ?_)) | refine RC ?_ | refine RU ?_ | refine WC_draw_all (id := 3) 8 (.calm 0 <| .calm 1 <| .calm 2 <| .calm 3 <| .calm 4 <| .calm 5 <| .calm 6 <| .must 7 <| .done) mixed (by kernel_rfl) ?_)
  refine WC_draw_sub (id := 4) 8 (.calm 0 <| .calm 1 <| .calm 2 <| .calm 3 <| .calm 4 <| .calm 5 <| .calm 6 <| .must 7 <| .done) mixed (by kernel_rfl) (List.nil_sublist _) ?_
  repeat (first | refine RQr ?_ | ((first | refine WL_Q ?_ | refine WR_Q rfl ?_ | refine WR_late rfl rfl rfl (OW_Q ?_)); (first | refine QW_of (Qt_nilCheck_m rfl) ?_)) | refine RC ?_ | refine RU ?_ | refine WC_draw_all (id := 4) 8 (.calm 0 <| .calm 1 <| .calm 2 <| .calm 3 <| .calm 4 <| .calm 5 <| .calm 6 <| .must 7 <| .done) mixed (by kernel_rfl) ?_)
  have l4 : Lies cs4 (off + 4) [x4] := fun q v h => by
    rw [U4.rest _ (.inr (by rw [L4]; omega))]
    exact g4 q v h
  refine WR_op rfl rfl ?_
  refine (OW_flatI M.mo M.co hM4 hT4 (W.room_le hr4 (by decide)) R4 hx4 (l4 0 _ rfl) (hfr.sub 4 1 (by decide)) rfl ⟨?_, ?_⟩)
  rotate_left
  · intro c a p s' Lp' cs' hs hM' hz
    exact ⟨_, rfl, c, a, p, s', Lp', cs', W.bad_cat [.ww, .ww, .nn, .ww, .ww] [x5, x6, x7, x8, x9] (W.cat_bad A4 O4 hs) (Oks.app O4 ho4), rfl, by rw [List.set_set], hM', hz.trans U4.size⟩
  intro s5 us4 Lp5 cs5 hs4 hM5 hu4 hT5
  have n4 : us4.length = 1 := W.stps_len hs4 ho4
  have U5 := U4.app hu4 (by rw [L4])
  have L5 := (show ((((([] ++ us0) ++ us1) ++ us2) ++ us3) ++ us4).length = 5 by rw [List.length_append, L4, n4])
  have A5 := W.cat_ok A4 O4 hs4
  have O5 := Oks.app O4 ho4
  have hr5 := W.stps_room (n := 5) hs4 ho4 (W.room_le hr4 (by decide))
  rw [List.set_set] at hT5
  rw [List.set_set]
  have R5 := get_set_self hR (b, Obj.cells cs5 E fr)
  refine ⟨(fun q hq => (by cases hq)), ?_⟩
  repeat (first | refine RQr ?_ | ((first | refine WL_Q ?_ | refine WR_Q rfl ?_ | refine WR_late rfl rfl rfl (OW_Q ?_)); (first | refine QW_of (Qt_nilCheck_m rfl) ?_)) | refine RC ?_ | refine RU ?_ | refine WC_draw_all (id := 4) 8 (.calm 0 <| .calm 1 <| .calm 2 <| .calm 3 <| .calm 4 <| .calm 5 <| .calm 6 <| .must 7 <| .done) mixed (by kernel_rfl) ?_)
  repeat (first | refine RQ ?_ | ((first | refine WL_Q ?_); (first | refine QW_of (Qt_nilCheck_m rfl) ?_)) | refine RC ?_ | refine WC_region (id := 5) ?_)
  have l5 : Lies cs5 (off + 5) [x5, x6, x7, x8, x9] := fun q v h => by
    rw [U5.rest _ (.inr (by rw [L5]; omega))]
    exact g5 q v h
  refine WL_op rfl ?_
  refine (OW_flatF (acc_flat M) hM5 hT5 (W.room_le hr5 (by decide)) R5 ho5 l5 (hfr.sub 5 5 (by decide)) rfl ⟨?_, ?_⟩)
  rotate_left
  · intro c a p s' Lp' cs' hs hM' hz
    exact ⟨_, rfl, c, a, p, s', Lp', cs', W.bad_cat [] [] (W.cat_bad A5 O5 hs) (Oks.app O5 ho5), rfl, by rw [List.set_set], hM', hz.trans U5.size⟩
  intro s6 us5 Lp6 cs6 hs5 hM6 hu5 hT6
  have n5 : us5.length = 5 := W.stps_len hs5 ho5
  have U6 := U5.app hu5 (by rw [L5])
  have L6 := (show (((((([] ++ us0) ++ us1) ++ us2) ++ us3) ++ us4) ++ us5).length = 10 by rw [List.length_append, L5, n5])
  have A6 := W.cat_ok A5 O5 hs5
  have O6 := Oks.app O5 ho5
  have hr6 := W.stps_room (n := 0) hs5 ho5 (W.room_le hr5 (by decide))
  rw [List.set_set] at hT6
  rw [List.set_set]
  have R6 := get_set_self hR (b, Obj.cells cs6 E fr)
  repeat (first | refine RQ ?_ | ((first | refine WL_Q ?_); (first | refine QW_of (Qt_nilCheck_m rfl) ?_)) | refine RC ?_ | refine WC_region (id := 5) ?_)
  exact ⟨.tuple #[], _, Res0 rfl, .refl _, rfl, s6, _, Lp6, cs6, A6, rfl, hM6, U6, hT6⟩
end
end Go.Proofs.YtakedlockchpcaaGreatDoor
namespace Go.Proofs.YtakedlockchpcaaGreatDoor
open Go.RowKit
attribute [local irreducible] Fn WC WL WR OW Qt YieldFn QW FnP FnD FnE
def PMem (pb : Nat) (T0 : List (Nat × Obj)) (n0 : Nat) (bs : List UInt8) (Lp : List (Nat × Obj)) : Prop :=
  ∃ v T, Lp = T ++ [(pb, .cells #[v] 177 (0, 0))] ∧ ByAt (T ++ T0) v bs ∧
    ((T = [] ∧ bs.length = n0 ∧ ∃ a, v = .slice a bs.length bs.length) ∨ ∃ g off cap cur, v = .slice (some ⟨g, off, none⟩) bs.length cap ∧ T = [(g, .cells cur 5 (0, 0))] ∧ Own 1 cur off cap bs.length (bs.map bV))
theorem enc_len_ok {k : Fk} {x : Value} (h : k.ok x) : (k.enc x).length ≤ 10 := by
  cases k with
  | ww => obtain ⟨x, rfl, h0, h1⟩ := h; exact enc_len (zz_lt h0 h1)
  | nn => obtain ⟨x, rfl, h0, h1⟩ := h; exact enc_len (by omega)
  | kk => obtain ⟨x, rfl, h0, h1⟩ := h; exact enc_len (by omega)
  | tt => obtain ⟨x, rfl⟩ := h; cases x <;> simp [Fk.enc, encB]
  | bb => obtain ⟨x, rfl⟩ := h; simp [Fk.enc, bV]
def putW (pb : Nat) (T0 : List (Nat × Obj)) (n0 : Nat) : Wy Tryz.prog where
  S := List UInt8
  t := 175
  v := .pointer (some ⟨pb, 0, none⟩)
  T0 := T0
  mem := PMem pb T0 n0
  room := fun bs n => bs.length + 10 * n ≤ 1000000000
  stp := fun k bs x => .ok (bs ++ k.enc x) x
  hr := fun bs => bs
  mst := fun _ _ _ => none
  hr_room := fun h => h
  key_ok := fun h0 h1 h _ => by cases h; exact ⟨rfl, h1⟩
  key_bad := fun h => by cases h
  key_must := fun _ h => by cases h
  keeps := .inr fun _ _ _ _ _ h => by cases h; rfl
  stp_ok := fun h ho => by cases h; exact ho
  stp_room := fun h ho hr => by
    cases h
    have := enc_len_ok ho
    rw [List.length_append]
    omega
  room_le := fun h hm => by omega
theorem putW_stps (pb : Nat) (T0 : List (Nat × Obj)) (n0 : Nat) : ∀ {fs : List Fk} {bs : List UInt8} {vs : List Value}, Oks fs vs → (putW pb T0 n0).stps fs bs vs = .ok (bs ++ encs fs vs) vs
  | [], bs, [], _ => by simp [Wy.stps, encs]
  | k :: ks, bs, v :: vs, h => by
    have ih := putW_stps pb T0 n0 (fs := ks) (bs := bs ++ k.enc v) h.2
    simp only [Wy.stps]
    have e : (putW pb T0 n0).stp k bs v = .ok (bs ++ k.enc v) v := rfl
    rw [e]
    simp only
    rw [ih, List.append_assoc]
    rfl
  | [], _, _ :: _, h => h.elim
  | _ :: _, _, [], h => h.elim
section
variable {pb : Nat} {T0 : List (Nat × Obj)} {n0 : Nat}
theorem put_after {R : List (Nat × Obj)} (hT : ∀ q ∈ T0, q ∈ R) {bs bs' : List UInt8} {i b : Nat} {cs : Array Value} {E : TypeId} {fr : Nat × Nat} {off : Nat} {x : Value} {k : Fk} (hR : R[i]? = some (b, .cells cs E fr)) (hl : cs[off]? = some x) (he : bs' = bs ++ k.enc x) {g off' cap : Nat} {cur : Array Value} (ho : Own 1 cur off' cap bs'.length (bs'.map bV)) :
    FRet (putW pb T0 n0) ((putW pb T0 n0).stps [k] bs [x]) R i b cs E fr off ((g, .cells cur 5 (0, 0)) :: (pb, .cells #[.slice (some ⟨g, off', none⟩) bs'.length cap] 177 (0, 0)) :: R) := by
  subst he
  refine ⟨bs ++ k.enc x, [x], [(g, .cells cur 5 (0, 0))] ++ [(pb, .cells #[.slice (some ⟨g, off', none⟩) (bs ++ k.enc x).length cap] 177 (0, 0))], cs, rfl, by rw [set_same hR]; rfl, ⟨_, _, rfl, (show ByAt ([(g, Obj.cells cur 5 (0, 0))] ++ T0) _ _ from own_by0 ho), .inr ⟨g, off', cap, cur, rfl, rfl, ho⟩⟩, Upd.refl_of fun j v h => ?_, by rw [set_same hR]; exact hT⟩
  cases j with
  | zero => simp at h; subst h; exact hl
  | succ j => simp at h
theorem put_by {sl : Value} {T R : List (Nat × Obj)} {bs : List UInt8} {q : Nat × Obj} (hT : ∀ q ∈ T0, q ∈ R) (hb0 : ByAt (T ++ T0) sl bs) : ByAt ((T ++ [q]) ++ R) sl bs := by
  refine Vec.mono hb0 fun i p hp => ?_
  refine List.mem_iff_getElem?.1 ?_
  have := List.mem_of_getElem? hp
  rcases List.mem_append.1 this with h | h
  · exact List.mem_append_left _ (List.mem_append_left _ h)
  · exact List.mem_append_right _ (hT _ h)
set_option maxHeartbeats 1000000 in
theorem put_whole : Flat (putW pb T0 n0) 172 (.pointer (some ⟨pb, 0, none⟩)) [.ww] := by
  rintro (bs : List UInt8) _ R i b cs E fr off vs ⟨sl, T, rfl, hb0, hT⟩ hT0 hroom hR hv hl _
  obtain ⟨x0, us, rfl, ⟨x, rfl, h0, h1⟩, hv'⟩ := hv.split
  obtain rfl := hv'.nil
  have hc := hl.cons.1
  have hroom : bs.length + 10 * 1 ≤ 1000000000 := hroom
  have hlen : bs.length ≤ 1000000000 := by omega
  have hX := get_app (A := T ++ [(pb, .cells #[sl] 177 (0, 0))]) hR
  have hP : ((T ++ [(pb, .cells #[sl] 177 (0, 0))]) ++ R)[T.length]? = some (pb, .cells #[sl] 177 (0, 0)) := by simp
  have hb := put_by (R := R) (q := (pb, .cells #[sl] 177 (0, 0))) hT0 hb0
  refine FnE.ofFn ?_
  refine Fn_enter Tryz.func172 rfl Tryz.ntmps172 rfl fun g => ?_
  repeat (first | refine RQr ?_ | ((first | refine WL_op rfl ?_ | refine WR_late rfl rfl rfl ?_ | refine WR_opG rfl rfl ?_); (first | (refine OE ?_; try intro _) | (refine OW_call rfl (hF := PI_fn hb h0 h1 hlen) (hk := ?_); rintro _ _ ⟨b1, off1, cap1, cur1, rfl, rfl, ho1⟩)); try refine SD ?_) | refine RC ?_ | refine RU ?_ | refine WC_draw_all (id := 0) 9 (.calm 0 <| .calm 1 <| .calm 2 <| .calm 3 <| .calm 4 <| .calm 5 <| .calm 6 <| .calm 7 <| .must 8 <| .must 9 <| .must 10 <| .must 11 <| .done) mixed (by kernel_rfl) ?_ | refine WC_region ?_)
  have hP' : ((b1, Obj.cells cur1 5 (0, 0)) :: ((T ++ [(pb, .cells #[sl] 177 (0, 0))]) ++ R))[T.length + 1]? = some (pb, .cells #[sl] 177 (0, 0)) := hP
  refine WR_late rfl rfl rfl (OW_store1F (v := .slice (some ⟨b1, off1, none⟩) (bs ++ enc (zz x)).length cap1) rfl (off := 0) (cs := #[sl]) (T.length + 1) hP' (by simp) (Free.zero _ _) (WR_nil ?_))
  refine ⟨rfl, _, _, Res0 rfl, ?_, rfl, put_after (g := b1) hT0 hR hc rfl ho1⟩
  rw [show ∀ q : Nat × Obj, ((b1, Obj.cells cur1 5 (0, 0)) :: ((T ++ [(pb, .cells #[sl] 177 (0, 0))]) ++ R)).set (T.length + 1) q = (b1, Obj.cells cur1 5 (0, 0)) :: (T ++ (q :: R)) from fun q => by simp]
  exact .cons_cons _ (List.sublist_append_right _ _)
set_option maxHeartbeats 1000000 in
theorem put_number : Flat (putW pb T0 n0) 169 (.pointer (some ⟨pb, 0, none⟩)) [.nn] := by
  rintro (bs : List UInt8) _ R i b cs E fr off vs ⟨sl, T, rfl, hb0, hT⟩ hT0 hroom hR hv hl _
  obtain ⟨x0, us, rfl, ⟨x, rfl, h0, h1⟩, hv'⟩ := hv.split
  obtain rfl := hv'.nil
  have hc := hl.cons.1
  have hroom : bs.length + 10 * 1 ≤ 1000000000 := hroom
  have hlen : bs.length ≤ 1000000000 := by omega
  have hX := get_app (A := T ++ [(pb, .cells #[sl] 177 (0, 0))]) hR
  have hP : ((T ++ [(pb, .cells #[sl] 177 (0, 0))]) ++ R)[T.length]? = some (pb, .cells #[sl] 177 (0, 0)) := by simp
  have hb := put_by (R := R) (q := (pb, .cells #[sl] 177 (0, 0))) hT0 hb0
  refine FnE.ofFn ?_
  refine Fn_enter Tryz.func169 rfl Tryz.ntmps169 rfl fun g => ?_
  repeat (first | refine RQr ?_ | ((first | refine WL_op rfl ?_ | refine WR_late rfl rfl rfl ?_ | refine WR_opG rfl rfl ?_); (first | (refine OE ?_; try intro _) | (refine OW_call rfl (hF := P_fn' hb h0 h1 hlen) (hk := ?_); rintro _ _ ⟨b1, off1, cap1, cur1, rfl, rfl, ho1⟩)); try refine SD ?_) | refine RC ?_ | refine RU ?_ | refine WC_draw_all (id := 0) 9 (.calm 0 <| .calm 1 <| .calm 2 <| .calm 3 <| .calm 4 <| .calm 5 <| .calm 6 <| .calm 7 <| .must 8 <| .must 9 <| .must 10 <| .must 11 <| .done) mixed (by kernel_rfl) ?_ | refine WC_region ?_)
  have hP' : ((b1, Obj.cells cur1 5 (0, 0)) :: ((T ++ [(pb, .cells #[sl] 177 (0, 0))]) ++ R))[T.length + 1]? = some (pb, .cells #[sl] 177 (0, 0)) := hP
  refine WR_late rfl rfl rfl (OW_store1F (v := .slice (some ⟨b1, off1, none⟩) (bs ++ enc x.toNat).length cap1) rfl (off := 0) (cs := #[sl]) (T.length + 1) hP' (by simp) (Free.zero _ _) (WR_nil ?_))
  refine ⟨rfl, _, _, Res0 rfl, ?_, rfl, put_after (g := b1) hT0 hR hc rfl ho1⟩
  rw [show ∀ q : Nat × Obj, ((b1, Obj.cells cur1 5 (0, 0)) :: ((T ++ [(pb, .cells #[sl] 177 (0, 0))]) ++ R)).set (T.length + 1) q = (b1, Obj.cells cur1 5 (0, 0)) :: (T ++ (q :: R)) from fun q => by simp]
  exact .cons_cons _ (List.sublist_append_right _ _)
set_option maxHeartbeats 1000000 in
theorem put_truth : Flat (putW pb T0 n0) 171 (.pointer (some ⟨pb, 0, none⟩)) [.tt] := by
  rintro (bs : List UInt8) _ R i b cs E fr off vs ⟨sl, T, rfl, hb0, hT⟩ hT0 hroom hR hv hl _
  obtain ⟨x0, us, rfl, ⟨x, rfl⟩, hv'⟩ := hv.split
  obtain rfl := hv'.nil
  have hc := hl.cons.1
  have hroom : bs.length + 10 * 1 ≤ 1000000000 := hroom
  have hlen : bs.length ≤ 1000000000 := by omega
  have hX := get_app (A := T ++ [(pb, .cells #[sl] 177 (0, 0))]) hR
  have hP : ((T ++ [(pb, .cells #[sl] 177 (0, 0))]) ++ R)[T.length]? = some (pb, .cells #[sl] 177 (0, 0)) := by simp
  have hb := put_by (R := R) (q := (pb, .cells #[sl] 177 (0, 0))) hT0 hb0
  refine FnE.ofFn ?_
  refine Fn_enter Tryz.func171 rfl Tryz.ntmps171 rfl fun g => ?_
  repeat (first | refine RQr ?_ | ((first | refine WL_op rfl ?_ | refine WR_late rfl rfl rfl ?_ | refine WR_opG rfl rfl ?_); (first | (refine OE ?_; try intro _) | (refine OW_call rfl (hF := PBool_fn hb hlen) (hk := ?_); rintro _ _ ⟨b1, off1, cap1, cur1, rfl, rfl, ho1⟩)); try refine SD ?_) | refine RC ?_ | refine RU ?_ | refine WC_draw_all (id := 0) 9 (.calm 0 <| .calm 1 <| .calm 2 <| .calm 3 <| .calm 4 <| .calm 5 <| .calm 6 <| .calm 7 <| .must 8 <| .must 9 <| .must 10 <| .must 11 <| .done) mixed (by kernel_rfl) ?_ | refine WC_region ?_)
  have hP' : ((b1, Obj.cells cur1 5 (0, 0)) :: ((T ++ [(pb, .cells #[sl] 177 (0, 0))]) ++ R))[T.length + 1]? = some (pb, .cells #[sl] 177 (0, 0)) := hP
  refine WR_late rfl rfl rfl (OW_store1F (v := .slice (some ⟨b1, off1, none⟩) (bs ++ encB x).length cap1) rfl (off := 0) (cs := #[sl]) (T.length + 1) hP' (by simp) (Free.zero _ _) (WR_nil ?_))
  refine ⟨rfl, _, _, Res0 rfl, ?_, rfl, put_after (g := b1) hT0 hR hc rfl ho1⟩
  rw [show ∀ q : Nat × Obj, ((b1, Obj.cells cur1 5 (0, 0)) :: ((T ++ [(pb, .cells #[sl] 177 (0, 0))]) ++ R)).set (T.length + 1) q = (b1, Obj.cells cur1 5 (0, 0)) :: (T ++ (q :: R)) from fun q => by simp]
  exact .cons_cons _ (List.sublist_append_right _ _)
set_option maxHeartbeats 1000000 in
theorem put_one : Flat (putW pb T0 n0) 170 (.pointer (some ⟨pb, 0, none⟩)) [.bb] := by
  rintro (bs : List UInt8) _ R i b cs E fr off vs ⟨sl, T, rfl, hb0, hT⟩ hT0 hroom hR hv hl _
  obtain ⟨x0, us, rfl, ⟨x, rfl⟩, hv'⟩ := hv.split
  obtain rfl := hv'.nil
  have hc := hl.cons.1
  have hroom : bs.length + 10 * 1 ≤ 1000000000 := hroom
  have hlen : bs.length ≤ 1000000000 := by omega
  have hX := get_app (A := T ++ [(pb, .cells #[sl] 177 (0, 0))]) hR
  have hP : ((T ++ [(pb, .cells #[sl] 177 (0, 0))]) ++ R)[T.length]? = some (pb, .cells #[sl] 177 (0, 0)) := by simp
  have hb := put_by (R := R) (q := (pb, .cells #[sl] 177 (0, 0))) hT0 hb0
  have e1 : bs ++ [x] = bs ++ Fk.enc .bb (bV x) := by
    show _ = bs ++ [UInt8.ofNat ((x.toNat : Nat) : Int).toNat]
    rw [Int.toNat_natCast, UInt8.ofNat_toNat]
  refine FnE.ofFn ?_
  refine Fn_enter Tryz.func170 rfl Tryz.ntmps170 rfl fun g => ?_
  rcases hT with ⟨rfl, hn0, a, rfl⟩ | ⟨g, goff, gcap, gcur, rfl, rfl, hown⟩
  · repeat (first | refine RQr ?_ | ((first | refine WL_op rfl ?_ | refine WR_late rfl rfl rfl ?_ | refine WR_opG rfl rfl ?_); (first | (refine OE ?_; try intro _)); try refine SD ?_) | refine RC ?_ | refine RU ?_ | refine WC_draw_all (id := 0) 10 (.calm 0 <| .calm 1 <| .calm 2 <| .calm 3 <| .calm 4 <| .calm 5 <| .calm 6 <| .calm 7 <| .must 8 <| .must 9 <| .must 10 <| .must 11 <| .must 12 <| .done) mixed (by kernel_rfl) ?_ | refine WC_region ?_)
    rename_i qb
    refine WR_opG rfl rfl (OW_append_new rfl rfl rfl rfl rfl (olds := bs.map bV) (m := 1) (news := [bV x]) (Vec.cons _ hb) (src1 0 rfl) (by omega) (by simp only [maxLen]; omega) (by omega) fun b1 cap1 cur1 ho => ?_)
    refine ⟨(by first | exact fun _ h => h | exact fun _ h => List.Sublist.subset (by repeat (first | exact .refl _ | exact List.nil_sublist _ | exact List.sublist_append_right _ _ | exact List.Sublist.append (.refl _) (List.sublist_append_right _ _) | apply List.Sublist.cons_cons | apply List.Sublist.cons)) h), ?_⟩
    repeat (first | refine RQr ?_ | ((first | refine WL_op rfl ?_ | refine WR_late rfl rfl rfl ?_ | refine WR_opG rfl rfl ?_); (first | (refine OE ?_; try intro _)); try refine SD ?_) | refine RC ?_ | refine RU ?_ | refine WC_draw_all (id := 0) 10 (.calm 0 <| .calm 1 <| .calm 2 <| .calm 3 <| .calm 4 <| .calm 5 <| .calm 6 <| .calm 7 <| .must 8 <| .must 9 <| .must 10 <| .must 11 <| .must 12 <| .done) mixed (by kernel_rfl) ?_ | refine WC_region ?_)
    have ho1 : Own 1 cur1 0 cap1 (bs ++ [x]).length ((bs ++ [x]).map bV) := by rw [List.length_append, List.map_append]; exact ho
    have hf := put_after (g := b1) (pb := pb) (T0 := T0) (n0 := n0) hT0 hR hc e1 ho1
    rw [List.length_append] at hf
    exact ⟨rfl, _, _, Res0 rfl, .cons_cons _ (.cons _ (.refl _)), rfl, hf⟩
  · have hX2 : ((pb, Obj.cells #[.slice (some ⟨g, goff, none⟩) bs.length gcap] 177 (0, 0)) :: R)[i + 1]? = some _ := hR
    have hsub : ((pb, Obj.cells #[.slice (some ⟨g, goff, none⟩) bs.length gcap] 177 (0, 0)) :: R).Sublist (([(g, Obj.cells gcur 5 (0, 0))] ++ [(pb, Obj.cells #[.slice (some ⟨g, goff, none⟩) bs.length gcap] 177 (0, 0))]) ++ R) := .cons _ (.refl _)
    refine WC_draw_sub (id := 0) 10 (.calm 0 <| .calm 1 <| .calm 2 <| .calm 3 <| .calm 4 <| .calm 5 <| .calm 6 <| .calm 7 <| .must 8 <| .must 9 <| .must 10 <| .must 11 <| .must 12 <| .done) mixed (by kernel_rfl) (hsub) ?_
    repeat (first | refine RQr ?_ | ((first | refine WL_op rfl ?_ | refine WR_late rfl rfl rfl ?_ | refine WR_op rfl rfl ?_); (first | (refine OE ?_; try intro _)); try refine SD ?_) | refine RC ?_ | refine RU ?_ | refine WC_draw_all (id := 0) 10 (.calm 0 <| .calm 1 <| .calm 2 <| .calm 3 <| .calm 4 <| .calm 5 <| .calm 6 <| .calm 7 <| .must 8 <| .must 9 <| .must 10 <| .must 11 <| .must 12 <| .done) mixed (by kernel_rfl) ?_ | refine WC_region ?_)
    rename_i qb
    refine WR_op rfl rfl (OW_append_own rfl rfl rfl rfl rfl 1 rfl hown (src1 0 rfl) (by simp only [maxLen]; omega) (by omega) fun b1 off1 cap1 cur1 ho => ?_)
    simp only [List.cons_append, List.nil_append, List.set_cons_succ, List.set_cons_zero]
    refine ⟨(by first | exact fun _ h => h | exact fun _ h => List.Sublist.subset (by repeat (first | exact .refl _ | exact List.nil_sublist _ | exact List.sublist_append_right _ _ | exact List.Sublist.append (.refl _) (List.sublist_append_right _ _) | apply List.Sublist.cons_cons | apply List.Sublist.cons)) h), ?_⟩
    repeat (first | refine RQr ?_ | ((first | refine WL_op rfl ?_ | refine WR_late rfl rfl rfl ?_ | refine WR_op rfl rfl ?_); (first | (refine OE ?_; try intro _)); try refine SD ?_) | refine RC ?_ | refine RU ?_ | refine WC_draw_all (id := 0) 10 (.calm 0 <| .calm 1 <| .calm 2 <| .calm 3 <| .calm 4 <| .calm 5 <| .calm 6 <| .calm 7 <| .must 8 <| .must 9 <| .must 10 <| .must 11 <| .must 12 <| .done) mixed (by kernel_rfl) ?_ | refine WC_region ?_)
    have ho1 : Own 1 cur1 off1 cap1 (bs ++ [x]).length ((bs ++ [x]).map bV) := by rw [List.length_append, List.map_append]; exact ho
    have hf := put_after (g := b1) (pb := pb) (T0 := T0) (n0 := n0) hT0 hR hc e1 ho1
    rw [List.length_append] at hf
    exact ⟨rfl, _, _, Res0 rfl, .cons _ (.refl _), rfl, hf⟩
theorem put_here (s : List UInt8) (Lp R : List (Nat × Obj)) (h : PMem pb T0 n0 s Lp) : FnE Tryz.prog 167 [.pointer (some ⟨pb, 0, none⟩)] (Lp ++ R) (fun v L' => v = .tuple #[] ∧ ∃ Lp', L' = Lp' ++ R ∧ PMem pb T0 n0 s Lp') (fun _ _ => False) := by
  refine FnE.ofFn ?_
  refine Fn_enter Tryz.func167 rfl Tryz.ntmps167 rfl fun g => ?_
  repeat (first | refine RQ ?_ | refine RC ?_ | refine WC_region ?_)
  exact ⟨rfl, _, _, Res0 rfl, .refl _, rfl, Lp, rfl, h⟩
theorem put_must (Lp R : List (Nat × Obj)) (b : Bool) (code : Nat) : FnE Tryz.prog 168 [.pointer (some ⟨pb, 0, none⟩), .bool b, .int .i64 code] (Lp ++ R) (fun v L' => v = .tuple #[] ∧ L' = Lp ++ R) (fun _ _ => False) := by
  refine FnE.ofFn ?_
  refine Fn_enter Tryz.func168 rfl Tryz.ntmps168 rfl fun g => ?_
  repeat (first | refine RQ ?_ | refine RC ?_ | refine WC_region ?_)
  exact ⟨rfl, _, _, Res0 rfl, .refl _, rfl, rfl⟩
end
def putM (pb : Nat) (T0 : List (Nat × Obj)) (n0 : Nat) : Meth (putW pb T0 n0) where
  fw := 172
  fn := 169
  ft := 171
  fo := 170
  fh := 167
  fm := 168
  mw := by kernel_rfl
  mn := by kernel_rfl
  mt := by kernel_rfl
  mo := by kernel_rfl
  mh := by kernel_rfl
  mm := by kernel_rfl
  iw := inferInstance
  jn := inferInstance
  it := inferInstance
  io := inferInstance
  ih := inferInstance
  im := inferInstance
  cw := put_whole
  cn := put_number
  ct := put_truth
  co := put_one
  ch := put_here
  cm := fun _ Lp R b code _ => (put_must Lp R b code).mono (fun _ _ ⟨h1, h2⟩ => ⟨h1, h2, rfl⟩) (fun _ _ h => h.elim)
theorem putF {pb : Nat} {T0 : List (Nat × Obj)} {n0 : Nat} {f : FuncId} {a0 : Value} {fs : List Fk} (hC : Flat (putW pb T0 n0) f a0 fs) {bs : List UInt8} {Lp R : List (Nat × Obj)} {i b : Nat} {cs : Array Value} {E : TypeId} {fr : Nat × Nat} {off : Nat} {vs : List Value} (hM : PMem pb T0 n0 bs Lp) (hT : ∀ q ∈ T0, q ∈ R) (hroom : bs.length + 10 * fs.length ≤ 1000000000) (hR : R[i]? = some (b, .cells cs E fr)) (hv : Oks fs vs) (hl : Lies cs off vs) (hfr : Free fr off fs.length) :
    Fn Tryz.prog f [a0, .pointer (some ⟨b, off, none⟩)] (Lp ++ R) (fun v L' => v = .tuple #[] ∧ ∃ Lp', L' = Lp' ++ R ∧ PMem pb T0 n0 (bs ++ encs fs vs) Lp') := by
  have h := hC bs Lp R i b cs E fr off vs hM hT hroom hR hv hl hfr
  rw [putW_stps pb T0 n0 hv] at h
  refine (h.toFn fun u L' ⟨c, a, p, s', Lp', cs', h1, _⟩ => by cases h1).mono fun v L' ⟨h0, s', vs', Lp', cs', h1, h2, h3, h4, _⟩ => ?_
  cases h1
  refine ⟨h0, Lp', ?_, h3⟩
  rw [h2, h4.same hl, set_same hR]
theorem encs_len : ∀ {fs : List Fk} {vs : List Value}, Oks fs vs → (encs fs vs).length ≤ 10 * fs.length
  | [], [], _ => by simp [encs]
  | k :: ks, v :: vs, h => by
    have h1 := enc_len_ok h.1
    have h2 := encs_len h.2
    show (k.enc v ++ encs ks vs).length ≤ _
    rw [List.length_append, List.length_cons]; omega
  | [], _ :: _, h => h.elim
  | _ :: _, [], h => h.elim
theorem encn_len {es : List Fk} : ∀ {vss : List (List Value)}, (∀ vs ∈ vss, Oks es vs) → (vss.flatMap (encs es)).length ≤ 10 * es.length * vss.length
  | [], _ => by simp
  | v :: vss, h => by
    have h1 := encs_len (h v List.mem_cons_self)
    have h2 := encn_len (vss := vss) fun vs hv => h vs (List.mem_cons_of_mem _ hv)
    rw [List.flatMap_cons, List.length_append, List.length_cons, Nat.mul_succ]; omega
theorem encl_len {es : List Fk} {vss : List (List Value)} (h : ∀ vs ∈ vss, Oks es vs) (hn : vss.length ≤ 1000000) : (encl es vss).length ≤ 10 + 10 * es.length * vss.length := by
  have h1 := encn_len h
  have h2 := enc_len (n := vss.length) (by omega)
  unfold encl
  rw [List.length_append]; omega
end Go.Proofs.YtakedlockchpcaaGreatDoor
namespace Go.Proofs.YtakedlockchpcaaGreatDoor
open Go.RowKit
attribute [local irreducible] Fn WC WL WR OW Qt YieldFn QW FnP FnD FnE
def Elems (R : List (Nat × Obj)) (a : Option Addr) (n : Nat) (vss : List (List Value)) : Prop :=
  vss = [] ∨ ∃ (be eo ie : Nat) (ec : Array Value) (EE : TypeId) (ef : Nat × Nat), a = some ⟨be, eo, none⟩ ∧ R[ie]? = some (be, .cells ec EE ef) ∧ ∀ j vs, vss[j]? = some vs → Lies ec (eo + j * n) vs ∧ Free ef (eo + j * n) n
abbrev putV (pb : Nat) : Value := .iface 175 (.pointer (some ⟨pb, 0, none⟩))
section
variable {pb : Nat} {T0 : List (Nat × Obj)} {n0 : Nat}
set_option maxHeartbeats 4000000 in
theorem plist_int {bs : List UInt8} {Lp R : List (Nat × Obj)} {i b : Nat} {cs : Array Value} {E : TypeId} {fr : Nat × Nat} {off : Nat} {a : Option Addr} {cap : Nat} {vss : List (List Value)} {most : Int} (hM : PMem pb T0 n0 bs Lp) (hT : ∀ q ∈ T0, q ∈ R) (hn : vss.length ≤ 1000000) (hroom : bs.length + 10 + 10 * vss.length ≤ 1000000000) (hR : R[i]? = some (b, .cells cs E fr)) (hc : cs[off]? = some (.slice a vss.length cap)) (he : Elems R a 1 vss) (ho : ∀ vs ∈ vss, Oks binF vs) :
    Fn Tryz.prog 103 [putV pb, .pointer (some ⟨b, off, none⟩), .int .i64 most, .func (.func 101) #[] #[]] (Lp ++ R) (fun v L' => v = .tuple #[] ∧ ∃ Lp', L' = Lp' ++ R ∧ PMem pb T0 n0 (bs ++ encl binF vss) Lp') := by
  have ih := (putM pb T0 n0).ih
  have jn := (putM pb T0 n0).jn
  have im := (putM pb T0 n0).im
  have hX := get_app (A := Lp) hR
  have hw : IntKind.u64.wrap ((vss.length : Nat) : Int) = ((vss.length : Nat) : Int) := wU64 (by omega) (by omega)
  refine Fn_enter Tryz.func103 rfl Tryz.ntmps103 rfl fun g => ?_
  repeat (first | refine RQ ?_ | ((first | refine WL_Q ?_); (first | refine QW_of (Qt_nilCheck_m rfl) ?_)) | (refine RE ?_; try intro _) | refine RC ?_ | refine WC_region ?_)
  refine WL_op rfl ?_
  refine OW_invE (putM pb T0 n0).mh rfl (put_here bs Lp R hM) ?_ (fun _ _ h => h.elim)
  rintro _ _ ⟨rfl, Lp1, rfl, hM1⟩
  have hX1 := get_app (A := Lp1) hR
  repeat (first | refine RQ ?_ | ((first | refine WL_Q ?_); (first | refine QW_of (Qt_nilCheck_m rfl) ?_)) | (refine RE ?_; try intro _) | refine RC ?_ | refine WC_region (id := 0) ?_ | refine WC_region (id := 1) ?_ | refine WC_region (id := 3) ?_ | refine WC_region (id := 4) ?_ | refine WC_region (id := 5) ?_ | refine WC_region (id := 6) ?_ | refine WC_region (id := 7) ?_ | refine WC_region (id := 8) ?_ | refine WC_region (id := 9) ?_ | refine WC_region (id := 10) ?_ | refine WC_region (id := 11) ?_)
  rw [hw]
  repeat (first | refine RQ ?_ | ((first | refine WL_Q ?_); (first | refine QW_of (Qt_nilCheck_m rfl) ?_)) | (refine RE ?_; try intro _) | refine RC ?_ | refine WC_region ?_)
  rename_i mb
  refine WL_op rfl ?_
  refine OW_locI (c := ⟨Tryz.prog, g, _, _, _⟩) (W := putW pb T0 n0) (k := .nn) (s := bs) (putM pb T0 n0).mn (putM pb T0 n0).cn hM1 hT (show bs.length + 10 * 1 ≤ 1000000000 by omega) ⟨_, rfl, by omega, by omega⟩ rfl ?_ (fun c a p s' Lp' h => by cases h)
  intro s' x' Lp2 hs hM2
  cases hs
  repeat (first | refine RQ ?_ | ((first | refine WL_Q ?_); (first | refine QW_of (Qt_nilCheck_m rfl) ?_)) | (refine RE ?_; try intro _) | refine RC ?_ | refine WC_region ?_)
  refine WL_op rfl ?_
  refine OW_invE (putM pb T0 n0).mm rfl (put_must (_ :: Lp2) R _ 4) ?_ (fun _ _ h => h.elim)
  rintro _ _ ⟨rfl, rfl⟩
  rw [List.cons_append]
  repeat (first | refine RQ ?_ | ((first | refine WL_Q ?_); (first | refine QW_of (Qt_nilCheck_m rfl) ?_)) | (refine RE ?_; try intro _) | refine RC0 ?_ | refine WC_block (id := 1) ?_ | refine WC_region ?_)
  have hM2 : PMem pb T0 n0 (bs ++ enc vss.length) Lp2 := by
    have e : bs ++ Fk.enc .nn (.int .u64 (vss.length : Nat)) = bs ++ enc vss.length := by show bs ++ enc ((vss.length : Nat) : Int).toNat = _; rw [Int.toNat_natCast]
    rw [← e]; exact hM2
  refine WC_block (WC_wk [(27, .int .u64 0), (26, .int .u64 (vss.length : Nat)), (0, putV pb), (1, .pointer (some ⟨b, off, none⟩)), (3, .func (.func 101) #[] #[])] ⟨rfl, rfl, rfl, rfl, rfl, trivial⟩ ?_)
  refine WC_dropL (Lp2 ++ R) (.cons _ (.refl _)) ?_
  have hel := enc_len (n := vss.length) (by omega)
  refine WC_loop (fun m σ => ∃ j Lpj, m = vss.length - j ∧ j ≤ vss.length ∧ PMem pb T0 n0 (bs ++ enc vss.length ++ (vss.take j).flatMap (encs binF)) Lpj ∧ σ = ⟨[(27, .int .u64 (j : Nat)), (26, .int .u64 (vss.length : Nat)), (0, putV pb), (1, .pointer (some ⟨b, off, none⟩)), (3, .func (.func 101) #[] #[])], [], Lpj ++ R⟩) vss.length ⟨0, Lp2, by omega, by omega, by simpa using hM2, rfl⟩ ?_
  rintro m σ ⟨j, Lpj, rfl, hj, hMj, rfl⟩
  by_cases hlt : j < vss.length
  · have d1 : decide (((j : Nat) : Int) < ((vss.length : Nat) : Int)) = true := decide_eq_true (by omega)
    have d2 : (((j : Nat) : Int) == IntKind.u64.wrap ((vss.length : Nat) : Int)) = false := by rw [hw]; simp; omega
    have hXj := get_app (A := Lpj) hR
    obtain ⟨vs, hvs⟩ : ∃ vs, vss[j]? = some vs := ⟨_, List.getElem?_eq_getElem hlt⟩
    rcases he with he | ⟨be, eo, ie, ec, EE, ef, rfl, hRe, hat⟩
    · rw [he] at hlt; simp at hlt
    obtain ⟨hl, hf⟩ := hat j vs hvs
    have hov := ho vs (List.mem_of_getElem? hvs)
    have i1 : ((j : Nat) : Int) < ((vss.length : Nat) : Int) := by omega
    have hrm : (bs ++ enc vss.length ++ (vss.take j).flatMap (encs binF)).length + 10 * binF.length ≤ 1000000000 := by
      have h1 := encn_len (es := binF) (vss := vss.take j) fun vs hv => ho vs (List.mem_of_mem_take hv)
      have h2 : (vss.take j).length = j := by rw [List.length_take]; omega
      rw [h2, show binF.length = 1 from rfl] at h1
      rw [List.length_append, List.length_append, show binF.length = 1 from rfl]
      omega
    have hwj : IntKind.u64.wrap (((j : Nat) : Int) + 1) = ((j + 1 : Nat) : Int) := by rw [wU64 (by omega) (by omega)]; omega
    repeat (first | refine RQ ?_ | ((first | refine WL_Q ?_); (first | refine QW_of (Qt_nilCheck_m rfl) ?_)) | (refine RE ?_; try intro _) | refine RC ?_ | refine WC_region ?_)
    refine WL_op rfl ?_
    refine OW_callE rfl (FnE.ofFn (Rp := fun _ _ => False) (putF (small_flat (putM pb T0 n0)) hMj hT hrm hRe hov hl hf)) ?_ (fun _ _ h => h.elim)
    rintro _ _ ⟨rfl, Lp', rfl, hM'⟩
    repeat (first | refine RQ ?_ | ((first | refine WL_Q ?_); (first | refine QW_of (Qt_nilCheck_m rfl) ?_)) | (refine RE ?_; try intro _) | refine RC ?_ | refine WC_region ?_)
    rw [hwj]
    refine ⟨_, _, by omega, ⟨j + 1, Lp', rfl, by omega, ?_, rfl⟩, ⟨rfl, rfl, rfl, rfl, rfl, trivial⟩, rfl, .refl _⟩
    rw [List.take_add_one, hvs, List.flatMap_append, ← List.append_assoc]
    simpa using hM'
  · have d1 : decide (((j : Nat) : Int) < ((vss.length : Nat) : Int)) = false := decide_eq_false (by omega)
    obtain rfl : j = vss.length := by omega
    rw [List.take_length, List.append_assoc] at hMj
    repeat (first | refine RQ ?_ | ((first | refine WL_Q ?_); (first | refine QW_of (Qt_nilCheck_m rfl) ?_)) | (refine RE ?_; try intro _) | refine RC ?_ | refine WC_region ?_)
    exact ⟨rfl, _, _, Res0 rfl, .refl _, rfl, Lpj, rfl, hMj⟩
set_option maxHeartbeats 4000000 in
theorem plist_entry {bs : List UInt8} {Lp R : List (Nat × Obj)} {i b : Nat} {cs : Array Value} {E : TypeId} {fr : Nat × Nat} {off : Nat} {a : Option Addr} {cap : Nat} {vss : List (List Value)} {most : Int} (hM : PMem pb T0 n0 bs Lp) (hT : ∀ q ∈ T0, q ∈ R) (hn : vss.length ≤ 1000000) (hroom : bs.length + 10 + 100 * vss.length ≤ 1000000000) (hR : R[i]? = some (b, .cells cs E fr)) (hc : cs[off]? = some (.slice a vss.length cap)) (he : Elems R a 10 vss) (ho : ∀ vs ∈ vss, Oks entryF vs) :
    Fn Tryz.prog 104 [putV pb, .pointer (some ⟨b, off, none⟩), .int .i64 most, .func (.func 61) #[] #[]] (Lp ++ R) (fun v L' => v = .tuple #[] ∧ ∃ Lp', L' = Lp' ++ R ∧ PMem pb T0 n0 (bs ++ encl entryF vss) Lp') := by
  have ih := (putM pb T0 n0).ih
  have jn := (putM pb T0 n0).jn
  have im := (putM pb T0 n0).im
  have hX := get_app (A := Lp) hR
  have hw : IntKind.u64.wrap ((vss.length : Nat) : Int) = ((vss.length : Nat) : Int) := wU64 (by omega) (by omega)
  refine Fn_enter Tryz.func104 rfl Tryz.ntmps104 rfl fun g => ?_
  repeat (first | refine RQr ?_ | ((first | refine WL_Q ?_ | refine WR_Q rfl ?_ | refine WR_late rfl rfl rfl (OW_Q ?_)); (first | refine QW_of (Qt_nilCheck_m rfl) ?_)) | ((first | refine WL_op rfl ?_ | refine WR_late rfl rfl rfl ?_ | refine WR_opG rfl rfl ?_); (first | (refine OE ?_; try intro _)); try refine SD ?_) | refine RC ?_ | refine RU ?_ | refine WC_draw_all (id := 9) 8 (.calm 0 <| .calm 1 <| .calm 2 <| .calm 3 <| .calm 4 <| .must 5 <| .must 6 <| .calm 7 <| .must 8 <| .done) mixed (by kernel_rfl) ?_ | refine WC_region ?_)
  refine WL_op rfl ?_
  refine OW_invE (putM pb T0 n0).mh rfl (put_here bs Lp R hM) ?_ (fun _ _ h => h.elim)
  rintro _ _ ⟨rfl, Lp1, rfl, hM1⟩
  have hX1 := get_app (A := Lp1) hR
  repeat (first | refine RQr ?_ | ((first | refine WL_Q ?_ | refine WR_Q rfl ?_ | refine WR_late rfl rfl rfl (OW_Q ?_)); (first | refine QW_of (Qt_nilCheck_m rfl) ?_)) | ((first | refine WL_op rfl ?_ | refine WR_late rfl rfl rfl ?_ | refine WR_opG rfl rfl ?_); (first | (refine OE ?_; try intro _)); try refine SD ?_) | refine RC ?_ | refine RU ?_ | refine WC_draw_all (id := 9) 8 (.calm 0 <| .calm 1 <| .calm 2 <| .calm 3 <| .calm 4 <| .must 5 <| .must 6 <| .calm 7 <| .must 8 <| .done) mixed (by kernel_rfl) ?_ | refine WC_region (id := 0) ?_ | refine WC_region (id := 1) ?_ | refine WC_region (id := 3) ?_ | refine WC_region (id := 4) ?_ | refine WC_region (id := 5) ?_ | refine WC_region (id := 6) ?_ | refine WC_region (id := 7) ?_ | refine WC_region (id := 8) ?_ | refine WC_region (id := 10) ?_ | refine WC_region (id := 11) ?_)
  rw [hw]
  repeat (first | refine RQr ?_ | ((first | refine WL_Q ?_ | refine WR_Q rfl ?_ | refine WR_late rfl rfl rfl (OW_Q ?_)); (first | refine QW_of (Qt_nilCheck_m rfl) ?_)) | ((first | refine WL_op rfl ?_ | refine WR_late rfl rfl rfl ?_ | refine WR_opG rfl rfl ?_); (first | (refine OE ?_; try intro _)); try refine SD ?_) | refine RC ?_ | refine RU ?_ | refine WC_draw_all (id := 9) 8 (.calm 0 <| .calm 1 <| .calm 2 <| .calm 3 <| .calm 4 <| .must 5 <| .must 6 <| .calm 7 <| .must 8 <| .done) mixed (by kernel_rfl) ?_ | refine WC_region ?_)
  rename_i mb
  refine WL_op rfl ?_
  refine OW_locI (c := ⟨Tryz.prog, g, _, _, _⟩) (W := putW pb T0 n0) (k := .nn) (s := bs) (putM pb T0 n0).mn (putM pb T0 n0).cn hM1 hT (show bs.length + 10 * 1 ≤ 1000000000 by omega) ⟨_, rfl, by omega, by omega⟩ rfl ?_ (fun c a p s' Lp' h => by cases h)
  intro s' x' Lp2 hs hM2
  cases hs
  repeat (first | refine RQr ?_ | ((first | refine WL_Q ?_ | refine WR_Q rfl ?_ | refine WR_late rfl rfl rfl (OW_Q ?_)); (first | refine QW_of (Qt_nilCheck_m rfl) ?_)) | ((first | refine WL_op rfl ?_ | refine WR_late rfl rfl rfl ?_ | refine WR_opG rfl rfl ?_); (first | (refine OE ?_; try intro _)); try refine SD ?_) | refine RC ?_ | refine RU ?_ | refine WC_draw_all (id := 9) 8 (.calm 0 <| .calm 1 <| .calm 2 <| .calm 3 <| .calm 4 <| .must 5 <| .must 6 <| .calm 7 <| .must 8 <| .done) mixed (by kernel_rfl) ?_ | refine WC_region ?_)
  refine WL_op rfl ?_
  refine OW_invE (putM pb T0 n0).mm rfl (put_must (_ :: Lp2) R _ 4) ?_ (fun _ _ h => h.elim)
  rintro _ _ ⟨rfl, rfl⟩
  rw [List.cons_append]
  repeat (first | refine RQr ?_ | ((first | refine WL_Q ?_ | refine WR_Q rfl ?_ | refine WR_late rfl rfl rfl (OW_Q ?_)); (first | refine QW_of (Qt_nilCheck_m rfl) ?_)) | ((first | refine WL_op rfl ?_ | refine WR_late rfl rfl rfl ?_ | refine WR_opG rfl rfl ?_); (first | (refine OE ?_; try intro _)); try refine SD ?_) | refine RC0 ?_ | refine RU ?_ | refine WC_block (id := 1) ?_ | refine WC_draw_all (id := 9) 8 (.calm 0 <| .calm 1 <| .calm 2 <| .calm 3 <| .calm 4 <| .must 5 <| .must 6 <| .calm 7 <| .must 8 <| .done) mixed (by kernel_rfl) ?_ | refine WC_region ?_)
  have hM2 : PMem pb T0 n0 (bs ++ enc vss.length) Lp2 := by
    have e : bs ++ Fk.enc .nn (.int .u64 (vss.length : Nat)) = bs ++ enc vss.length := by show bs ++ enc ((vss.length : Nat) : Int).toNat = _; rw [Int.toNat_natCast]
    rw [← e]; exact hM2
  refine WC_block (WC_wk [(27, .int .u64 0), (26, .int .u64 (vss.length : Nat)), (0, putV pb), (1, .pointer (some ⟨b, off, none⟩)), (3, .func (.func 61) #[] #[])] ⟨rfl, rfl, rfl, rfl, rfl, trivial⟩ ?_)
  refine WC_dropL (Lp2 ++ R) (.cons _ (.refl _)) ?_
  have hel := enc_len (n := vss.length) (by omega)
  refine WC_loop (fun m σ => ∃ j Lpj, m = vss.length - j ∧ j ≤ vss.length ∧ PMem pb T0 n0 (bs ++ enc vss.length ++ (vss.take j).flatMap (encs entryF)) Lpj ∧ σ = ⟨[(27, .int .u64 (j : Nat)), (26, .int .u64 (vss.length : Nat)), (0, putV pb), (1, .pointer (some ⟨b, off, none⟩)), (3, .func (.func 61) #[] #[])], [], Lpj ++ R⟩) vss.length ⟨0, Lp2, by omega, by omega, by simpa using hM2, rfl⟩ ?_
  rintro m σ ⟨j, Lpj, rfl, hj, hMj, rfl⟩
  by_cases hlt : j < vss.length
  · have d1 : decide (((j : Nat) : Int) < ((vss.length : Nat) : Int)) = true := decide_eq_true (by omega)
    have d2 : (((j : Nat) : Int) == IntKind.u64.wrap ((vss.length : Nat) : Int)) = false := by rw [hw]; simp; omega
    have hXj := get_app (A := Lpj) hR
    obtain ⟨vs, hvs⟩ : ∃ vs, vss[j]? = some vs := ⟨_, List.getElem?_eq_getElem hlt⟩
    rcases he with he | ⟨be, eo, ie, ec, EE, ef, rfl, hRe, hat⟩
    · rw [he] at hlt; simp at hlt
    obtain ⟨hl, hf⟩ := hat j vs hvs
    have hov := ho vs (List.mem_of_getElem? hvs)
    have i1 : ((j : Nat) : Int) < ((vss.length : Nat) : Int) := by omega
    have hrm : (bs ++ enc vss.length ++ (vss.take j).flatMap (encs entryF)).length + 10 * entryF.length ≤ 1000000000 := by
      have h1 := encn_len (es := entryF) (vss := vss.take j) fun vs hv => ho vs (List.mem_of_mem_take hv)
      have h2 : (vss.take j).length = j := by rw [List.length_take]; omega
      rw [h2, show entryF.length = 10 from rfl] at h1
      rw [List.length_append, List.length_append, show entryF.length = 10 from rfl]
      omega
    have hwj : IntKind.u64.wrap (((j : Nat) : Int) + 1) = ((j + 1 : Nat) : Int) := by rw [wU64 (by omega) (by omega)]; omega
    repeat (first | refine RQr ?_ | ((first | refine WL_Q ?_ | refine WR_Q rfl ?_ | refine WR_late rfl rfl rfl (OW_Q ?_)); (first | refine QW_of (Qt_nilCheck_m rfl) ?_)) | ((first | refine WL_op rfl ?_ | refine WR_late rfl rfl rfl ?_ | refine WR_opG rfl rfl ?_); (first | (refine OE ?_; try intro _)); try refine SD ?_) | refine RC ?_ | refine RU ?_ | refine WC_draw_all (id := 9) 8 (.calm 0 <| .calm 1 <| .calm 2 <| .calm 3 <| .calm 4 <| .must 5 <| .must 6 <| .calm 7 <| .must 8 <| .done) mixed (by kernel_rfl) ?_ | refine WC_region ?_)
    refine WL_op rfl ?_
    refine OW_callE rfl (FnE.ofFn (Rp := fun _ _ => False) (putF (entry_flat (putM pb T0 n0)) hMj hT hrm hRe hov hl hf)) ?_ (fun _ _ h => h.elim)
    rintro _ _ ⟨rfl, Lp', rfl, hM'⟩
    repeat (first | refine RQr ?_ | ((first | refine WL_Q ?_ | refine WR_Q rfl ?_ | refine WR_late rfl rfl rfl (OW_Q ?_)); (first | refine QW_of (Qt_nilCheck_m rfl) ?_)) | ((first | refine WL_op rfl ?_ | refine WR_late rfl rfl rfl ?_ | refine WR_opG rfl rfl ?_); (first | (refine OE ?_; try intro _)); try refine SD ?_) | refine RC ?_ | refine RU ?_ | refine WC_draw_all (id := 9) 8 (.calm 0 <| .calm 1 <| .calm 2 <| .calm 3 <| .calm 4 <| .must 5 <| .must 6 <| .calm 7 <| .must 8 <| .done) mixed (by kernel_rfl) ?_ | refine WC_region ?_)
    rw [hwj]
    refine ⟨_, _, by omega, ⟨j + 1, Lp', rfl, by omega, ?_, rfl⟩, ⟨rfl, rfl, rfl, rfl, rfl, trivial⟩, rfl, .refl _⟩
    rw [List.take_add_one, hvs, List.flatMap_append, ← List.append_assoc]
    simpa using hM'
  · have d1 : decide (((j : Nat) : Int) < ((vss.length : Nat) : Int)) = false := decide_eq_false (by omega)
    obtain rfl : j = vss.length := by omega
    rw [List.take_length, List.append_assoc] at hMj
    repeat (first | refine RQr ?_ | ((first | refine WL_Q ?_ | refine WR_Q rfl ?_ | refine WR_late rfl rfl rfl (OW_Q ?_)); (first | refine QW_of (Qt_nilCheck_m rfl) ?_)) | ((first | refine WL_op rfl ?_ | refine WR_late rfl rfl rfl ?_ | refine WR_opG rfl rfl ?_); (first | (refine OE ?_; try intro _)); try refine SD ?_) | refine RC ?_ | refine RU ?_ | refine WC_draw_all (id := 9) 8 (.calm 0 <| .calm 1 <| .calm 2 <| .calm 3 <| .calm 4 <| .must 5 <| .must 6 <| .calm 7 <| .must 8 <| .done) mixed (by kernel_rfl) ?_ | refine WC_region ?_)
    exact ⟨rfl, _, _, Res0 rfl, .refl _, rfl, Lpj, rfl, hMj⟩
end
end Go.Proofs.YtakedlockchpcaaGreatDoor
namespace Go.Proofs.YtakedlockchpcaaGreatDoor
open Go.RowKit
attribute [local irreducible] Fn WC WL WR OW Qt YieldFn QW FnP FnD FnE
theorem ok1 {k : Fk} {v : Value} (h : k.ok v) : Oks [k] [v] := ⟨h, trivial⟩
section
variable {pb : Nat} {T0 : List (Nat × Obj)} {n0 : Nat}
set_option maxHeartbeats 4000000 in
theorem pcmd {bs : List UInt8} {Lp R : List (Nat × Obj)} {i b : Nat} {cs : Array Value} {E : TypeId} {fr : Nat × Nat} {off : Nat} {a : Option Addr} {cap : Nat} {ch ct : List Value} {bins : List (List Value)} (hM : PMem pb T0 n0 bs Lp) (hT : ∀ q ∈ T0, q ∈ R) (hn : bins.length ≤ 1000000) (hroom : bs.length + 100 + 10 * bins.length ≤ 1000000000) (hR : R[i]? = some (b, .cells cs E fr)) (hch : Oks chF ch) (hct : Oks ctF ct) (hb : ∀ vs ∈ bins, Oks binF vs)
    (hl : Lies cs off (ch ++ (.slice a bins.length cap :: ct))) (he : Elems R a 1 bins) (hfr : Free fr off 10) :
    Fn Tryz.prog 57 [putV pb, .pointer (some ⟨b, off, none⟩)] (Lp ++ R) (fun v L' => v = .tuple #[] ∧ ∃ Lp', L' = Lp' ++ R ∧ PMem pb T0 n0 (bs ++ encCmd ch bins ct) Lp') := by
  obtain ⟨c0, us, rfl, h0, hch'⟩ := hch.split
  obtain ⟨c1, us, rfl, h1, hch''⟩ := hch'.split
  obtain rfl := hch''.nil
  obtain ⟨t0, us, rfl, k0, q⟩ := hct.split
  obtain ⟨t1, us, rfl, k1, q⟩ := q.split
  obtain ⟨t2, us, rfl, k2, q⟩ := q.split
  obtain ⟨t3, us, rfl, k3, q⟩ := q.split
  obtain ⟨t4, us, rfl, k4, q⟩ := q.split
  obtain ⟨t5, us, rfl, k5, q⟩ := q.split
  obtain ⟨t6, us, rfl, k6, q⟩ := q.split
  obtain rfl := q.nil
  have ih := (putM pb T0 n0).ih
  have jn := (putM pb T0 n0).jn
  have im := (putM pb T0 n0).im
  have iw := (putM pb T0 n0).iw
  have it := (putM pb T0 n0).it
  have qw : methX Tryz.prog 175 "anabranch/codec.whole" = some 172 := (putM pb T0 n0).mw
  have qt : methX Tryz.prog 175 "anabranch/codec.truth" = some 171 := (putM pb T0 n0).mt
  have qm : methX Tryz.prog 175 "anabranch/codec.must" = some 168 := (putM pb T0 n0).mm
  have e0 := enc_len_ok h0
  have e1 := enc_len_ok h1
  have e2 := encl_len hb hn
  have e3 := enc_len_ok k0
  have e4 := enc_len_ok k1
  have hop : Oks opF [t2, t3, t4, t5] := ⟨k2, k3, k4, k5, trivial⟩
  have e5 := encs_len hop
  have s1 : ∀ v : Value, encs [.ww] [v] = Fk.enc .ww v := fun v => by simp [encs]
  have e5' : (encs opF [t2, t3, t4, t5]).length ≤ 40 := e5
  have e2' : (encl binF bins).length ≤ 10 + 10 * bins.length := by simpa using e2
  refine Fn_enter Tryz.func57 rfl Tryz.ntmps57 rfl fun g => ?_
  repeat (first | refine RQ ?_ | ((first | refine WL_Q ?_); (first | refine QW_of (Qt_nilCheck_m rfl) ?_)) | refine RC ?_ | refine WC_region (id := 0) ?_)
  refine WL_op rfl ?_
  refine OW_callE rfl (FnE.ofFn (Rp := fun _ _ => False) (putF (fs := [.ww]) (small_flat (putM pb T0 n0)) hM hT (show bs.length + 10 * 1 ≤ 1000000000 by omega) hR (ok1 h0) (hl.cut 0 1) (hfr.sub 0 1 (by decide)))) ?_ (fun _ _ h => h.elim)
  rintro _ _ ⟨rfl, Lp0, rfl, hM0⟩
  repeat (first | refine RQ ?_ | ((first | refine WL_Q ?_); (first | refine QW_of (Qt_nilCheck_m rfl) ?_)) | refine RC ?_ | refine WC_region (id := 0) ?_)
  repeat (first | refine RQ ?_ | ((first | refine WL_Q ?_); (first | refine QW_of (Qt_nilCheck_m rfl) ?_)) | refine RC ?_ | refine WC_region (id := 0) ?_)
  refine WC_draw_sub (id := 1) 8 (.calm 0 <| .calm 1 <| .calm 2 <| .calm 3 <| .calm 4 <| .calm 5 <| .calm 6 <| .must 7 <| .done) mixed (by kernel_rfl) (List.nil_sublist _) ?_
  repeat (first | refine RQr ?_ | ((first | refine WL_Q ?_ | refine WR_Q rfl ?_ | refine WR_late rfl rfl rfl (OW_Q ?_)); (first | refine QW_of (Qt_nilCheck_m rfl) ?_)) | refine RC ?_ | refine RU ?_ | refine WC_draw_all (id := 1) 8 (.calm 0 <| .calm 1 <| .calm 2 <| .calm 3 <| .calm 4 <| .calm 5 <| .calm 6 <| .must 7 <| .done) mixed (by kernel_rfl) ?_ | refine WC_region (id := 0) ?_)
  refine WR_op rfl rfl ?_
  refine OW_invE (putM pb T0 n0).mw rfl (FnE.ofFn (Rp := fun _ _ => False) (putF (fs := [.ww]) put_whole hM0 hT (show (bs ++ encs [.ww] [c0]).length + 10 * 1 ≤ 1000000000 by simp only [List.length_append, s1]; omega) hR (ok1 h1) (hl.cut 1 1) (hfr.sub 1 1 (by decide)))) ?_ (fun _ _ h => h.elim)
  rintro _ _ ⟨rfl, Lp1, rfl, hM1⟩
  refine ⟨(fun q hq => (by cases hq)), ?_⟩
  repeat (first | refine RQr ?_ | ((first | refine WL_Q ?_ | refine WR_Q rfl ?_ | refine WR_late rfl rfl rfl (OW_Q ?_)); (first | refine QW_of (Qt_nilCheck_m rfl) ?_)) | refine RC ?_ | refine RU ?_ | refine WC_draw_all (id := 1) 8 (.calm 0 <| .calm 1 <| .calm 2 <| .calm 3 <| .calm 4 <| .calm 5 <| .calm 6 <| .must 7 <| .done) mixed (by kernel_rfl) ?_ | refine WC_regB 3 ?_)
  refine WL_op rfl ?_
  refine OW_callE rfl (FnE.ofFn (Rp := fun _ _ => False) (plist_int (most := 8) hM1 hT hn (show (bs ++ encs [.ww] [c0] ++ encs [.ww] [c1]).length + 10 + 10 * bins.length ≤ 1000000000 by simp only [List.length_append, s1]; omega) hR ((hl.cut 2 1) 0 _ rfl) he hb)) ?_ (fun _ _ h => h.elim)
  rintro _ _ ⟨rfl, Lp2, rfl, hM2⟩
  repeat (first | refine RQ ?_ | ((first | refine WL_Q ?_); (first | refine QW_of (Qt_nilCheck_m rfl) ?_)) | refine RC ?_ | refine WC_region (id := 2) ?_ | refine WC_region (id := 3) ?_)
  refine WL_op rfl ?_
  refine OW_callE rfl (FnE.ofFn (Rp := fun _ _ => False) (putF (fs := [.ww]) (small_flat (putM pb T0 n0)) hM2 hT (show (bs ++ encs [.ww] [c0] ++ encs [.ww] [c1] ++ encl binF bins).length + 10 * 1 ≤ 1000000000 by simp only [List.length_append, s1]; omega) hR (ok1 k0) (hl.cut 3 1) (hfr.sub 3 1 (by decide)))) ?_ (fun _ _ h => h.elim)
  rintro _ _ ⟨rfl, Lp3, rfl, hM3⟩
  repeat (first | refine RQ ?_ | ((first | refine WL_Q ?_); (first | refine QW_of (Qt_nilCheck_m rfl) ?_)) | refine RC ?_ | refine WC_region (id := 2) ?_ | refine WC_region (id := 3) ?_ | refine WC_region (id := 4) ?_)
  refine WL_op rfl ?_
  refine OW_callE rfl (FnE.ofFn (Rp := fun _ _ => False) (putF (fs := [.ww]) (small_flat (putM pb T0 n0)) hM3 hT (show (bs ++ encs [.ww] [c0] ++ encs [.ww] [c1] ++ encl binF bins ++ encs [.ww] [t0]).length + 10 * 1 ≤ 1000000000 by simp only [List.length_append, s1]; omega) hR (ok1 k1) (hl.cut 4 1) (hfr.sub 4 1 (by decide)))) ?_ (fun _ _ h => h.elim)
  rintro _ _ ⟨rfl, Lp4, rfl, hM4⟩
  repeat (first | refine RQ ?_ | ((first | refine WL_Q ?_); (first | refine QW_of (Qt_nilCheck_m rfl) ?_)) | refine RC ?_ | refine WC_region (id := 2) ?_ | refine WC_region (id := 3) ?_ | refine WC_region (id := 4) ?_ | refine WC_region (id := 5) ?_)
  refine WL_op rfl ?_
  refine OW_callE rfl (FnE.ofFn (Rp := fun _ _ => False) (putF (fs := opF) (op_flat (putM pb T0 n0)) hM4 hT (show (bs ++ encs [.ww] [c0] ++ encs [.ww] [c1] ++ encl binF bins ++ encs [.ww] [t0] ++ encs [.ww] [t1]).length + 10 * 4 ≤ 1000000000 by simp only [List.length_append, s1]; omega) hR hop (hl.cut 5 4) (hfr.sub 5 4 (by decide)))) ?_ (fun _ _ h => h.elim)
  rintro _ _ ⟨rfl, Lp5, rfl, hM5⟩
  repeat (first | refine RQ ?_ | ((first | refine WL_Q ?_); (first | refine QW_of (Qt_nilCheck_m rfl) ?_)) | refine RC ?_ | refine WC_region (id := 2) ?_ | refine WC_region (id := 3) ?_ | refine WC_region (id := 4) ?_ | refine WC_region (id := 5) ?_ | refine WC_region (id := 6) ?_)
  refine WL_op rfl ?_
  refine OW_callE rfl (FnE.ofFn (Rp := fun _ _ => False) (putF (fs := [.ww]) (small_flat (putM pb T0 n0)) hM5 hT (show (bs ++ encs [.ww] [c0] ++ encs [.ww] [c1] ++ encl binF bins ++ encs [.ww] [t0] ++ encs [.ww] [t1] ++ encs opF [t2, t3, t4, t5]).length + 10 * 1 ≤ 1000000000 by simp only [List.length_append, s1]; omega) hR (ok1 k6) (hl.cut 9 1) (hfr.sub 9 1 (by decide)))) ?_ (fun _ _ h => h.elim)
  rintro _ _ ⟨rfl, Lp6, rfl, hM6⟩
  repeat (first | refine RQ ?_ | ((first | refine WL_Q ?_); (first | refine QW_of (Qt_nilCheck_m rfl) ?_)) | refine RC ?_ | refine WC_region (id := 2) ?_ | refine WC_region (id := 3) ?_ | refine WC_region (id := 4) ?_ | refine WC_region (id := 5) ?_ | refine WC_region (id := 6) ?_)
  refine ⟨rfl, _, _, Res0 rfl, .refl _, rfl, Lp6, rfl, ?_⟩
  have e : bs ++ encCmd [c0, c1] bins [t0, t1, t2, t3, t4, t5, t6] = (bs ++ encs [.ww] [c0] ++ encs [.ww] [c1] ++ encl binF bins ++ encs [.ww] [t0] ++ encs [.ww] [t1] ++ encs opF [t2, t3, t4, t5]) ++ encs [.ww] [t6] := by simp [encCmd, encs]
  rw [e]; exact hM6
set_option maxHeartbeats 4000000 in
theorem pchunk {bs : List UInt8} {Lp R : List (Nat × Obj)} {i b : Nat} {cs : Array Value} {E : TypeId} {fr : Nat × Nat} {off : Nat} {a : Option Addr} {cap : Nat} {kh : List Value} {ents : List (List Value)} (hM : PMem pb T0 n0 bs Lp) (hT : ∀ q ∈ T0, q ∈ R) (hn : ents.length ≤ 1000000) (hroom : bs.length + 100 + 100 * ents.length ≤ 1000000000) (hR : R[i]? = some (b, .cells cs E fr)) (hkh : Oks khF kh) (hb : ∀ vs ∈ ents, Oks entryF vs)
    (hl : Lies cs off (kh ++ [.slice a ents.length cap])) (he : Elems R a 10 ents) (hfr : Free fr off 4) :
    Fn Tryz.prog 65 [putV pb, .pointer (some ⟨b, off, none⟩)] (Lp ++ R) (fun v L' => v = .tuple #[] ∧ ∃ Lp', L' = Lp' ++ R ∧ PMem pb T0 n0 (bs ++ encChunk kh ents) Lp') := by
  obtain ⟨c0, us, rfl, h0, q⟩ := hkh.split
  obtain ⟨c1, us, rfl, h1, q⟩ := q.split
  obtain ⟨c2, us, rfl, h2, q⟩ := q.split
  obtain rfl := q.nil
  have ih := (putM pb T0 n0).ih
  have jn := (putM pb T0 n0).jn
  have im := (putM pb T0 n0).im
  have iw := (putM pb T0 n0).iw
  have it := (putM pb T0 n0).it
  have qw : methX Tryz.prog 175 "anabranch/codec.whole" = some 172 := (putM pb T0 n0).mw
  have qt : methX Tryz.prog 175 "anabranch/codec.truth" = some 171 := (putM pb T0 n0).mt
  have qm : methX Tryz.prog 175 "anabranch/codec.must" = some 168 := (putM pb T0 n0).mm
  have e0 := enc_len_ok h0
  have e1 := enc_len_ok h1
  have e2 := enc_len_ok h2
  have s1 : ∀ (k : Fk) (v : Value), encs [k] [v] = k.enc v := fun k v => by simp [encs]
  refine Fn_enter Tryz.func65 rfl Tryz.ntmps65 rfl fun g => ?_
  repeat (first | refine RQ ?_ | ((first | refine WL_Q ?_); (first | refine QW_of (Qt_nilCheck_m rfl) ?_)) | refine RC ?_ | refine WC_region (id := 0) ?_)
  refine WL_op rfl ?_
  refine OW_callE rfl (FnE.ofFn (Rp := fun _ _ => False) (putF (fs := [.ww]) (small_flat (putM pb T0 n0)) hM hT (show bs.length + 10 * 1 ≤ 1000000000 by omega) hR (ok1 h0) (hl.cut 0 1) (hfr.sub 0 1 (by decide)))) ?_ (fun _ _ h => h.elim)
  rintro _ _ ⟨rfl, Lp0, rfl, hM0⟩
  repeat (first | refine RQ ?_ | ((first | refine WL_Q ?_); (first | refine QW_of (Qt_nilCheck_m rfl) ?_)) | refine RC ?_ | refine WC_regB 2 ?_)
  refine WL_op rfl ?_
  refine OW_callE rfl (FnE.ofFn (Rp := fun _ _ => False) (putF (fs := [.ww]) (small_flat (putM pb T0 n0)) hM0 hT (show (bs ++ encs [.ww] [c0]).length + 10 * 1 ≤ 1000000000 by simp only [List.length_append, s1]; omega) hR (ok1 h1) (hl.cut 1 1) (hfr.sub 1 1 (by decide)))) ?_ (fun _ _ h => h.elim)
  rintro _ _ ⟨rfl, Lp1, rfl, hM1⟩
  repeat (first | refine RQ ?_ | ((first | refine WL_Q ?_); (first | refine QW_of (Qt_nilCheck_m rfl) ?_)) | refine RC ?_ | refine WC_regB 2 ?_)
  repeat (first | refine RQ ?_ | ((first | refine WL_Q ?_); (first | refine QW_of (Qt_nilCheck_m rfl) ?_)) | refine RC ?_ | refine WC_regB 2 ?_)
  refine WC_draw_sub (id := 2) 8 (.calm 0 <| .calm 1 <| .calm 2 <| .calm 3 <| .calm 4 <| .calm 5 <| .calm 6 <| .must 7 <| .done) mixed (by kernel_rfl) (List.nil_sublist _) ?_
  repeat (first | refine RQr ?_ | ((first | refine WL_Q ?_ | refine WR_Q rfl ?_ | refine WR_late rfl rfl rfl (OW_Q ?_)); (first | refine QW_of (Qt_nilCheck_m rfl) ?_)) | refine RC ?_ | refine RU ?_ | refine WC_draw_all (id := 2) 8 (.calm 0 <| .calm 1 <| .calm 2 <| .calm 3 <| .calm 4 <| .calm 5 <| .calm 6 <| .must 7 <| .done) mixed (by kernel_rfl) ?_ | refine WC_regB 3 ?_)
  refine WR_op rfl rfl ?_
  refine OW_invE (putM pb T0 n0).mt rfl (FnE.ofFn (Rp := fun _ _ => False) (putF (fs := [.tt]) put_truth hM1 hT (show (bs ++ encs [.ww] [c0] ++ encs [.ww] [c1]).length + 10 * 1 ≤ 1000000000 by simp only [List.length_append, s1]; omega) hR (ok1 h2) (hl.cut 2 1) (hfr.sub 2 1 (by decide)))) ?_ (fun _ _ h => h.elim)
  rintro _ _ ⟨rfl, Lp2, rfl, hM2⟩
  refine ⟨(fun q hq => (by cases hq)), ?_⟩
  repeat (first | refine RQr ?_ | ((first | refine WL_Q ?_ | refine WR_Q rfl ?_ | refine WR_late rfl rfl rfl (OW_Q ?_)); (first | refine QW_of (Qt_nilCheck_m rfl) ?_)) | refine RC ?_ | refine RU ?_ | refine WC_draw_all (id := 2) 8 (.calm 0 <| .calm 1 <| .calm 2 <| .calm 3 <| .calm 4 <| .calm 5 <| .calm 6 <| .must 7 <| .done) mixed (by kernel_rfl) ?_ | refine WC_region ?_)
  refine WL_op rfl ?_
  refine OW_callE rfl (FnE.ofFn (Rp := fun _ _ => False) (plist_entry (most := 64) hM2 hT hn (show (bs ++ encs [.ww] [c0] ++ encs [.ww] [c1] ++ encs [.tt] [c2]).length + 10 + 100 * ents.length ≤ 1000000000 by simp only [List.length_append, s1]; omega) hR ((hl.cut 3 1) 0 _ rfl) he hb)) ?_ (fun _ _ h => h.elim)
  rintro _ _ ⟨rfl, Lp3, rfl, hM3⟩
  repeat (first | refine RQ ?_ | ((first | refine WL_Q ?_); (first | refine QW_of (Qt_nilCheck_m rfl) ?_)) | refine RC ?_ | refine WC_region (id := 0) ?_ | refine WC_region (id := 1) ?_ | refine WC_region (id := 3) ?_)
  refine ⟨rfl, _, _, Res0 rfl, .refl _, rfl, Lp3, rfl, ?_⟩
  have e : bs ++ encChunk [c0, c1, c2] ents = (bs ++ encs [.ww] [c0] ++ encs [.ww] [c1] ++ encs [.tt] [c2]) ++ encl entryF ents := by simp [encChunk, encs]
  rw [e]; exact hM3
def MV.cells (m : MV) (a : Option Addr) (cap : Nat) (a' : Option Addr) (cap' : Nat) : List Value :=
  [.int .i64 m.kind, .int .i64 m.ver] ++ (m.rc ++ ([.int .i64 m.time, .int .i64 m.num] ++ ((m.ch ++ (.slice a m.bins.length cap :: m.ct)) ++ (m.kh ++ [.slice a' m.ents.length cap']))))
theorem MV.cells_at {m : MV} (h : m.Ok) {cs : Array Value} {off : Nat} {a : Option Addr} {cap : Nat} {a' : Option Addr} {cap' : Nat} (hl : Lies cs off (m.cells a cap a' cap')) :
    cs[off + 0]? = some (.int .i64 m.kind) ∧ cs[off + 1]? = some (.int .i64 m.ver) ∧ Lies cs (off + 2) m.rc ∧ cs[off + 8]? = some (.int .i64 m.time) ∧ cs[off + 9]? = some (.int .i64 m.num) ∧ Lies cs (off + 10) (m.ch ++ (.slice a m.bins.length cap :: m.ct)) ∧ Lies cs (off + 20) (m.kh ++ [.slice a' m.ents.length cap']) := by
  have l1 := h.rc.len
  have l2 := h.ch.len
  have l3 := h.ct.len
  simp only [List.length_cons, List.length_nil] at l1 l2 l3
  obtain ⟨h1, q⟩ := Lies.app hl
  obtain ⟨h2, q⟩ := Lies.app q
  obtain ⟨h3, q⟩ := Lies.app q
  obtain ⟨h4, h5⟩ := Lies.app q
  simp only [List.length_append, List.length_cons, List.length_nil, l1, l2, l3, Nat.add_assoc] at h2 h3 h4 h5
  exact ⟨h1 0 _ rfl, h1 1 _ rfl, h2, h3 0 _ rfl, h3 1 _ rfl, h4, h5⟩
theorem one_lies {cs : Array Value} {off : Nat} {v : Value} (h : cs[off]? = some v) : Lies cs off [v] := fun j u hj => by
  cases j with
  | zero => simp at hj; subst hj; exact h
  | succ j => simp at hj
set_option maxHeartbeats 8000000 in
theorem pmsg {bs : List UInt8} {Lp R : List (Nat × Obj)} {i b : Nat} {cs : Array Value} {E : TypeId} {fr : Nat × Nat} {off : Nat} {a : Option Addr} {cap : Nat} {a' : Option Addr} {cap' : Nat} {m : MV} (hM : PMem pb T0 n0 bs Lp) (hT : ∀ q ∈ T0, q ∈ R) (hm : m.Ok) (hn : m.bins.length ≤ 1000000) (hn' : m.ents.length ≤ 1000000) (hroom : bs.length + 1000 + 10 * m.bins.length + 100 * m.ents.length ≤ 1000000000) (hR : R[i]? = some (b, .cells cs E fr))
    (hl : Lies cs off (m.cells a cap a' cap')) (he : Elems R a 1 m.bins) (he' : Elems R a' 10 m.ents) (hfr : Free fr off 24) :
    Fn Tryz.prog 47 [putV pb, .pointer (some ⟨b, off, none⟩)] (Lp ++ R) (fun v L' => v = .tuple #[] ∧ ∃ Lp', L' = Lp' ++ R ∧ PMem pb T0 n0 (bs ++ m.enc) Lp') := by
  obtain ⟨g0, g1, g2, g3, g4, g5, g6⟩ := MV.cells_at hm hl
  have ih := (putM pb T0 n0).ih
  have jn := (putM pb T0 n0).jn
  have im := (putM pb T0 n0).im
  have iw := (putM pb T0 n0).iw
  have it := (putM pb T0 n0).it
  have qw : methX Tryz.prog 175 "anabranch/codec.whole" = some 172 := (putM pb T0 n0).mw
  have qt : methX Tryz.prog 175 "anabranch/codec.truth" = some 171 := (putM pb T0 n0).mt
  have qm : methX Tryz.prog 175 "anabranch/codec.must" = some 168 := (putM pb T0 n0).mm
  have e0 := enc_len (zz_lt hm.kind.1 hm.kind.2)
  have e1 := enc_len (zz_lt hm.ver.1 hm.ver.2)
  have o0 : Fk.ok .ww (.int .i64 m.kind) := ⟨_, rfl, hm.kind.1, hm.kind.2⟩
  have o1 : Fk.ok .ww (.int .i64 m.ver) := ⟨_, rfl, hm.ver.1, hm.ver.2⟩
  have o2 : Fk.ok .ww (.int .i64 m.time) := ⟨_, rfl, hm.time.1, hm.time.2⟩
  have o3 : Fk.ok .ww (.int .i64 m.num) := ⟨_, rfl, hm.num.1, hm.num.2⟩
  have s1 : ∀ x : Int, encs [.ww] [.int .i64 x] = enc (zz x) := fun x => by simp [encs, Fk.enc]
  have e2 := encs_len hm.rc
  refine Fn_enter Tryz.func47 rfl Tryz.ntmps47 rfl fun g => ?_
  repeat (first | refine RQ ?_ | ((first | refine WL_Q ?_); (first | refine QW_of (Qt_nilCheck_m rfl) ?_)) | refine RC ?_ | refine WC_region (id := 0) ?_)
  refine WL_op rfl ?_
  refine OW_invE (putM pb T0 n0).mh rfl (put_here bs Lp R hM) ?_ (fun _ _ h => h.elim)
  rintro _ _ ⟨rfl, Lp0, rfl, hM0⟩
  repeat (first | refine RQ ?_ | ((first | refine WL_Q ?_); (first | refine QW_of (Qt_nilCheck_m rfl) ?_)) | refine RC ?_ | refine WC_regB 2 ?_)
  refine WL_op rfl ?_
  refine OW_callE rfl (FnE.ofFn (Rp := fun _ _ => False) (putF (fs := [.ww]) (small_flat (putM pb T0 n0)) hM0 hT (show bs.length + 10 * 1 ≤ 1000000000 by omega) hR (ok1 o0) (one_lies g0) (hfr.sub 0 1 (by decide)))) ?_ (fun _ _ h => h.elim)
  rintro _ _ ⟨rfl, Lp1, rfl, hM1⟩
  rw [s1] at hM1
  have hX := get_app (A := Lp1) hR
  repeat (first | refine RQ ?_ | ((first | refine WL_Q ?_ | refine WL_Y ?_); (first | refine QW_of (Qt_nilCheck_m rfl) ?_)) | refine RC ?_ | refine WC_region (id := 1) ?_)
  refine WC_meet (fun σ => σ = ⟨[(0, putV pb), (1, .pointer (some ⟨b, off, none⟩))], [], Lp1 ++ R⟩) ?_ ?_
  · by_cases hk : 0 ≤ m.kind
    · have d1 : decide (m.kind ≥ 0) = true := decide_eq_true hk
      repeat (first | refine RQr ?_ | ((first | refine WL_Q ?_ | refine WL_Y ?_ | refine WR_Q rfl ?_ | refine WR_late rfl rfl rfl (OW_Q ?_) | refine WR_Y rfl ?_); (first | refine QW_of (Qt_nilCheck_m rfl) ?_)) | refine RC ?_ | refine RU ?_ | refine WC_draw_all (id := 2) 17 (.calm 0 <| .calm 1 <| .calm 2 <| .calm 3 <| .calm 4 <| .calm 5 <| .calm 6 <| .calm 7 <| .calm 8 <| .calm 9 <| .calm 10 <| .calm 11 <| .calm 12 <| .calm 13 <| .calm 14 <| .calm 15 <| .must 16 <| .done) mixed (by kernel_rfl) ?_)
      refine WR_op rfl rfl ?_
      refine OW_invE (putM pb T0 n0).mm rfl (put_must Lp1 R _ 6) ?_ (fun _ _ h => h.elim)
      rintro _ _ ⟨rfl, rfl⟩
      refine ⟨fun _ h => h, ?_⟩
      repeat (first | refine RQr ?_ | ((first | refine WL_Q ?_ | refine WL_Y ?_ | refine WR_Q rfl ?_ | refine WR_late rfl rfl rfl (OW_Q ?_) | refine WR_Y rfl ?_); (first | refine QW_of (Qt_nilCheck_m rfl) ?_)) | refine RC ?_ | refine RU ?_ | refine WC_draw_all (id := 2) 17 (.calm 0 <| .calm 1 <| .calm 2 <| .calm 3 <| .calm 4 <| .calm 5 <| .calm 6 <| .calm 7 <| .calm 8 <| .calm 9 <| .calm 10 <| .calm 11 <| .calm 12 <| .calm 13 <| .calm 14 <| .calm 15 <| .must 16 <| .done) mixed (by kernel_rfl) ?_)
      exact ⟨_, rfl, ⟨rfl, rfl, trivial⟩, rfl, .refl _⟩
    · have d1 : decide (m.kind ≥ 0) = false := decide_eq_false hk
      repeat (first | refine RQr ?_ | ((first | refine WL_Q ?_ | refine WL_Y ?_ | refine WR_Q rfl ?_ | refine WR_late rfl rfl rfl (OW_Q ?_) | refine WR_Y rfl ?_); (first | refine QW_of (Qt_nilCheck_m rfl) ?_)) | refine RC ?_ | refine RU ?_ | refine WC_draw_all (id := 2) 17 (.calm 0 <| .calm 1 <| .calm 2 <| .calm 3 <| .calm 4 <| .calm 5 <| .calm 6 <| .calm 7 <| .calm 8 <| .calm 9 <| .calm 10 <| .calm 11 <| .calm 12 <| .calm 13 <| .calm 14 <| .calm 15 <| .must 16 <| .done) mixed (by kernel_rfl) ?_)
      refine WR_op rfl rfl ?_
      refine OW_invE (putM pb T0 n0).mm rfl (put_must Lp1 R _ 6) ?_ (fun _ _ h => h.elim)
      rintro _ _ ⟨rfl, rfl⟩
      refine ⟨fun _ h => h, ?_⟩
      repeat (first | refine RQr ?_ | ((first | refine WL_Q ?_ | refine WL_Y ?_ | refine WR_Q rfl ?_ | refine WR_late rfl rfl rfl (OW_Q ?_) | refine WR_Y rfl ?_); (first | refine QW_of (Qt_nilCheck_m rfl) ?_)) | refine RC ?_ | refine RU ?_ | refine WC_draw_all (id := 2) 17 (.calm 0 <| .calm 1 <| .calm 2 <| .calm 3 <| .calm 4 <| .calm 5 <| .calm 6 <| .calm 7 <| .calm 8 <| .calm 9 <| .calm 10 <| .calm 11 <| .calm 12 <| .calm 13 <| .calm 14 <| .calm 15 <| .must 16 <| .done) mixed (by kernel_rfl) ?_)
      exact ⟨_, rfl, ⟨rfl, rfl, trivial⟩, rfl, .refl _⟩
  rintro _ rfl
  repeat (first | refine RQ ?_ | ((first | refine WL_Q ?_ | refine WL_Y ?_); (first | refine QW_of (Qt_nilCheck_m rfl) ?_)) | refine RC ?_ | refine WC_region (id := 3) ?_)
  refine WL_op rfl ?_
  refine OW_callE rfl (FnE.ofFn (Rp := fun _ _ => False) (putF (fs := [.ww]) (small_flat (putM pb T0 n0)) hM1 hT (show (bs ++ enc (zz m.kind)).length + 10 * 1 ≤ 1000000000 by rw [List.length_append]; omega) hR (ok1 o1) (one_lies g1) (hfr.sub 1 1 (by decide)))) ?_ (fun _ _ h => h.elim)
  rintro _ _ ⟨rfl, Lp2, rfl, hM2⟩
  rw [s1] at hM2
  have hl2 : (bs ++ enc (zz m.kind) ++ enc (zz m.ver)).length ≤ bs.length + 20 := by rw [List.length_append, List.length_append]; omega
  have fin : ∀ {x : List UInt8} {Lp' : List (Nat × Obj)}, m.body = x → PMem pb T0 n0 (bs ++ enc (zz m.kind) ++ enc (zz m.ver) ++ x) Lp' → PMem pb T0 n0 (bs ++ m.enc) Lp' := fun {x Lp'} h1 h2 => by
    have e : bs ++ m.enc = bs ++ enc (zz m.kind) ++ enc (zz m.ver) ++ x := by rw [← h1]; unfold MV.enc; simp
    rw [e]; exact h2
  have hX2 := get_app (A := Lp2) hR
  by_cases hk : m.kind = 0
  · have hk0 := hk
    have d0 : (m.kind == 0) = true := by simpa using hk
    repeat (first | refine RQr ?_ | ((first | refine WL_Q ?_ | refine WL_Y ?_ | refine WR_Q rfl ?_ | refine WR_late rfl rfl rfl (OW_Q ?_) | refine WR_Y rfl ?_); (first | refine QW_of (Qt_nilCheck_m rfl) ?_)) | refine RC ?_ | refine RU ?_ | refine WC_draw_all (id := 8) 8 (.calm 0 <| .calm 1 <| .calm 2 <| .calm 3 <| .calm 4 <| .calm 5 <| .calm 6 <| .must 7 <| .done) mixed (by kernel_rfl) ?_ | refine WC_region (id := 4) ?_ | refine WC_region (id := 5) ?_ | refine WC_region (id := 6) ?_ | refine WC_region (id := 7) ?_ | refine WC_region (id := 9) ?_ | refine WC_region (id := 10) ?_ | refine WC_region (id := 11) ?_ | refine WC_region (id := 12) ?_ | refine WC_region (id := 13) ?_ | refine WC_region (id := 14) ?_)
    refine WL_op rfl ?_
    refine OW_callE rfl (FnE.ofFn (Rp := fun _ _ => False) (putF (fs := recF) (rec_flat (putM pb T0 n0)) hM2 hT (show (bs ++ enc (zz m.kind) ++ enc (zz m.ver)).length + 10 * 6 ≤ 1000000000 by omega) hR (hm.rc) g2 (hfr.sub 2 6 (by decide)))) ?_ (fun _ _ h => h.elim)
    rintro _ _ ⟨rfl, Lp3, rfl, hM3⟩
    repeat (first | refine RQr ?_ | ((first | refine WL_Q ?_ | refine WL_Y ?_ | refine WR_Q rfl ?_ | refine WR_late rfl rfl rfl (OW_Q ?_) | refine WR_Y rfl ?_); (first | refine QW_of (Qt_nilCheck_m rfl) ?_)) | refine RC ?_ | refine RU ?_ | refine WC_draw_all (id := 8) 8 (.calm 0 <| .calm 1 <| .calm 2 <| .calm 3 <| .calm 4 <| .calm 5 <| .calm 6 <| .must 7 <| .done) mixed (by kernel_rfl) ?_ | refine WC_region (id := 0) ?_ | refine WC_region (id := 5) ?_ | refine WC_region (id := 6) ?_ | refine WC_region (id := 7) ?_ | refine WC_region (id := 9) ?_ | refine WC_region (id := 10) ?_ | refine WC_region (id := 11) ?_ | refine WC_region (id := 12) ?_ | refine WC_region (id := 13) ?_ | refine WC_region (id := 14) ?_)
    exact ⟨rfl, _, _, Res0 rfl, .refl _, rfl, Lp3, rfl, fin (by unfold MV.body; rw [if_pos hk]) hM3⟩
  by_cases hk : m.kind = 1
  · have hk1 := hk
    have d0 : (m.kind == 0) = false := by simpa using (show ¬ m.kind = 0 by omega)
    have d1 : (m.kind == 1) = true := by simpa using hk
    repeat (first | refine RQ ?_ | ((first | refine WL_Q ?_ | refine WL_Y ?_); (first | refine QW_of (Qt_nilCheck_m rfl) ?_)) | refine RC ?_ | refine WC_region (id := 4) ?_ | refine WC_region (id := 5) ?_ | refine WC_region (id := 6) ?_ | refine WC_region (id := 7) ?_ | refine WC_region (id := 9) ?_ | refine WC_region (id := 10) ?_ | refine WC_region (id := 11) ?_ | refine WC_region (id := 12) ?_ | refine WC_region (id := 13) ?_ | refine WC_region (id := 14) ?_)
    refine WC_draw_sub (id := 8) 8 (.calm 0 <| .calm 1 <| .calm 2 <| .calm 3 <| .calm 4 <| .calm 5 <| .calm 6 <| .must 7 <| .done) mixed (by kernel_rfl) (List.nil_sublist _) ?_
    repeat (first | refine RQr ?_ | ((first | refine WL_Q ?_ | refine WL_Y ?_ | refine WR_Q rfl ?_ | refine WR_late rfl rfl rfl (OW_Q ?_) | refine WR_Y rfl ?_); (first | refine QW_of (Qt_nilCheck_m rfl) ?_)) | refine RC ?_ | refine RU ?_ | refine WC_draw_all (id := 8) 8 (.calm 0 <| .calm 1 <| .calm 2 <| .calm 3 <| .calm 4 <| .calm 5 <| .calm 6 <| .must 7 <| .done) mixed (by kernel_rfl) ?_ | refine WC_region (id := 4) ?_ | refine WC_region (id := 5) ?_ | refine WC_region (id := 6) ?_ | refine WC_region (id := 7) ?_ | refine WC_region (id := 9) ?_ | refine WC_region (id := 10) ?_ | refine WC_region (id := 11) ?_ | refine WC_region (id := 12) ?_ | refine WC_region (id := 13) ?_ | refine WC_region (id := 14) ?_)
    refine WR_op rfl rfl ?_
    refine OW_invE (putM pb T0 n0).mw rfl (FnE.ofFn (Rp := fun _ _ => False) (putF (fs := [.ww]) put_whole hM2 hT (show (bs ++ enc (zz m.kind) ++ enc (zz m.ver)).length + 10 * 1 ≤ 1000000000 by omega) hR (ok1 o2) (one_lies g3) (hfr.sub 8 1 (by decide)))) ?_ (fun _ _ h => h.elim)
    rintro _ _ ⟨rfl, Lp3, rfl, hM3⟩
    refine ⟨(fun q hq => (by cases hq)), ?_⟩
    repeat (first | refine RQr ?_ | ((first | refine WL_Q ?_ | refine WL_Y ?_ | refine WR_Q rfl ?_ | refine WR_late rfl rfl rfl (OW_Q ?_) | refine WR_Y rfl ?_); (first | refine QW_of (Qt_nilCheck_m rfl) ?_)) | refine RC ?_ | refine RU ?_ | refine WC_draw_all (id := 8) 8 (.calm 0 <| .calm 1 <| .calm 2 <| .calm 3 <| .calm 4 <| .calm 5 <| .calm 6 <| .must 7 <| .done) mixed (by kernel_rfl) ?_ | refine WC_region (id := 0) ?_ | refine WC_region (id := 5) ?_ | refine WC_region (id := 6) ?_ | refine WC_region (id := 7) ?_ | refine WC_region (id := 9) ?_ | refine WC_region (id := 10) ?_ | refine WC_region (id := 11) ?_ | refine WC_region (id := 12) ?_ | refine WC_region (id := 13) ?_ | refine WC_region (id := 14) ?_)
    exact ⟨rfl, _, _, Res0 rfl, .refl _, rfl, Lp3, rfl, fin (by unfold MV.body; rw [if_neg (by omega), if_pos hk]; exact (s1 _).symm) hM3⟩
  by_cases hk : m.kind = 2
  · have hk2 := hk
    have d0 : (m.kind == 0) = false := by simpa using (show ¬ m.kind = 0 by omega)
    have d1 : (m.kind == 1) = false := by simpa using (show ¬ m.kind = 1 by omega)
    have d2 : (m.kind == 2) = true := by simpa using hk
    repeat (first | refine RQr ?_ | ((first | refine WL_Q ?_ | refine WL_Y ?_ | refine WR_Q rfl ?_ | refine WR_late rfl rfl rfl (OW_Q ?_) | refine WR_Y rfl ?_); (first | refine QW_of (Qt_nilCheck_m rfl) ?_)) | refine RC ?_ | refine RU ?_ | refine WC_draw_all (id := 8) 8 (.calm 0 <| .calm 1 <| .calm 2 <| .calm 3 <| .calm 4 <| .calm 5 <| .calm 6 <| .must 7 <| .done) mixed (by kernel_rfl) ?_ | refine WC_region (id := 4) ?_ | refine WC_region (id := 5) ?_ | refine WC_region (id := 6) ?_ | refine WC_region (id := 7) ?_ | refine WC_region (id := 9) ?_ | refine WC_region (id := 10) ?_ | refine WC_region (id := 11) ?_ | refine WC_region (id := 12) ?_ | refine WC_region (id := 13) ?_ | refine WC_region (id := 14) ?_)
    refine WL_op rfl ?_
    refine OW_callE rfl (FnE.ofFn (Rp := fun _ _ => False) (putF (fs := [.ww]) (small_flat (putM pb T0 n0)) hM2 hT (show (bs ++ enc (zz m.kind) ++ enc (zz m.ver)).length + 10 * 1 ≤ 1000000000 by omega) hR ((ok1 o3)) (one_lies g4) (hfr.sub 9 1 (by decide)))) ?_ (fun _ _ h => h.elim)
    rintro _ _ ⟨rfl, Lp3, rfl, hM3⟩
    repeat (first | refine RQr ?_ | ((first | refine WL_Q ?_ | refine WL_Y ?_ | refine WR_Q rfl ?_ | refine WR_late rfl rfl rfl (OW_Q ?_) | refine WR_Y rfl ?_); (first | refine QW_of (Qt_nilCheck_m rfl) ?_)) | refine RC ?_ | refine RU ?_ | refine WC_draw_all (id := 8) 8 (.calm 0 <| .calm 1 <| .calm 2 <| .calm 3 <| .calm 4 <| .calm 5 <| .calm 6 <| .must 7 <| .done) mixed (by kernel_rfl) ?_ | refine WC_region (id := 0) ?_ | refine WC_region (id := 5) ?_ | refine WC_region (id := 6) ?_ | refine WC_region (id := 7) ?_ | refine WC_region (id := 9) ?_ | refine WC_region (id := 10) ?_ | refine WC_region (id := 11) ?_ | refine WC_region (id := 12) ?_ | refine WC_region (id := 13) ?_ | refine WC_region (id := 14) ?_)
    exact ⟨rfl, _, _, Res0 rfl, .refl _, rfl, Lp3, rfl, fin (by unfold MV.body; rw [if_neg (by omega), if_neg (by omega), if_pos hk]; exact (s1 _).symm) hM3⟩
  by_cases hk : m.kind = 3
  · have hk3 := hk
    have d0 : (m.kind == 0) = false := by simpa using (show ¬ m.kind = 0 by omega)
    have d1 : (m.kind == 1) = false := by simpa using (show ¬ m.kind = 1 by omega)
    have d2 : (m.kind == 2) = false := by simpa using (show ¬ m.kind = 2 by omega)
    have d3 : (m.kind == 3) = true := by simpa using hk
    repeat (first | refine RQr ?_ | ((first | refine WL_Q ?_ | refine WL_Y ?_ | refine WR_Q rfl ?_ | refine WR_late rfl rfl rfl (OW_Q ?_) | refine WR_Y rfl ?_); (first | refine QW_of (Qt_nilCheck_m rfl) ?_)) | refine RC ?_ | refine RU ?_ | refine WC_draw_all (id := 8) 8 (.calm 0 <| .calm 1 <| .calm 2 <| .calm 3 <| .calm 4 <| .calm 5 <| .calm 6 <| .must 7 <| .done) mixed (by kernel_rfl) ?_ | refine WC_region (id := 4) ?_ | refine WC_region (id := 5) ?_ | refine WC_region (id := 6) ?_ | refine WC_region (id := 7) ?_ | refine WC_region (id := 9) ?_ | refine WC_region (id := 10) ?_ | refine WC_region (id := 11) ?_ | refine WC_region (id := 12) ?_ | refine WC_region (id := 13) ?_ | refine WC_region (id := 14) ?_)
    refine WL_op rfl ?_
    refine OW_callE rfl (FnE.ofFn (Rp := fun _ _ => False) (pcmd hM2 hT hn (by omega) hR hm.ch hm.ct hm.bins g5 he (hfr.sub 10 10 (by decide)))) ?_ (fun _ _ h => h.elim)
    rintro _ _ ⟨rfl, Lp3, rfl, hM3⟩
    repeat (first | refine RQr ?_ | ((first | refine WL_Q ?_ | refine WL_Y ?_ | refine WR_Q rfl ?_ | refine WR_late rfl rfl rfl (OW_Q ?_) | refine WR_Y rfl ?_); (first | refine QW_of (Qt_nilCheck_m rfl) ?_)) | refine RC ?_ | refine RU ?_ | refine WC_draw_all (id := 8) 8 (.calm 0 <| .calm 1 <| .calm 2 <| .calm 3 <| .calm 4 <| .calm 5 <| .calm 6 <| .must 7 <| .done) mixed (by kernel_rfl) ?_ | refine WC_region (id := 0) ?_ | refine WC_region (id := 5) ?_ | refine WC_region (id := 6) ?_ | refine WC_region (id := 7) ?_ | refine WC_region (id := 9) ?_ | refine WC_region (id := 10) ?_ | refine WC_region (id := 11) ?_ | refine WC_region (id := 12) ?_ | refine WC_region (id := 13) ?_ | refine WC_region (id := 14) ?_)
    exact ⟨rfl, _, _, Res0 rfl, .refl _, rfl, Lp3, rfl, fin (by unfold MV.body; rw [if_neg (by omega), if_neg (by omega), if_neg (by omega), if_pos hk]) hM3⟩
  by_cases hk : m.kind = 4
  · have hk4 := hk
    have d0 : (m.kind == 0) = false := by simpa using (show ¬ m.kind = 0 by omega)
    have d1 : (m.kind == 1) = false := by simpa using (show ¬ m.kind = 1 by omega)
    have d2 : (m.kind == 2) = false := by simpa using (show ¬ m.kind = 2 by omega)
    have d3 : (m.kind == 3) = false := by simpa using (show ¬ m.kind = 3 by omega)
    have d4 : (m.kind == 4) = true := by simpa using hk
    repeat (first | refine RQr ?_ | ((first | refine WL_Q ?_ | refine WL_Y ?_ | refine WR_Q rfl ?_ | refine WR_late rfl rfl rfl (OW_Q ?_) | refine WR_Y rfl ?_); (first | refine QW_of (Qt_nilCheck_m rfl) ?_)) | refine RC ?_ | refine RU ?_ | refine WC_draw_all (id := 8) 8 (.calm 0 <| .calm 1 <| .calm 2 <| .calm 3 <| .calm 4 <| .calm 5 <| .calm 6 <| .must 7 <| .done) mixed (by kernel_rfl) ?_ | refine WC_region (id := 4) ?_ | refine WC_region (id := 5) ?_ | refine WC_region (id := 6) ?_ | refine WC_region (id := 7) ?_ | refine WC_region (id := 9) ?_ | refine WC_region (id := 10) ?_ | refine WC_region (id := 11) ?_ | refine WC_region (id := 12) ?_ | refine WC_region (id := 13) ?_ | refine WC_region (id := 14) ?_)
    refine WL_op rfl ?_
    refine OW_callE rfl (FnE.ofFn (Rp := fun _ _ => False) (pchunk hM2 hT hn' (by omega) hR hm.kh hm.ents g6 he' (hfr.sub 20 4 (by decide)))) ?_ (fun _ _ h => h.elim)
    rintro _ _ ⟨rfl, Lp3, rfl, hM3⟩
    repeat (first | refine RQr ?_ | ((first | refine WL_Q ?_ | refine WL_Y ?_ | refine WR_Q rfl ?_ | refine WR_late rfl rfl rfl (OW_Q ?_) | refine WR_Y rfl ?_); (first | refine QW_of (Qt_nilCheck_m rfl) ?_)) | refine RC ?_ | refine RU ?_ | refine WC_draw_all (id := 8) 8 (.calm 0 <| .calm 1 <| .calm 2 <| .calm 3 <| .calm 4 <| .calm 5 <| .calm 6 <| .must 7 <| .done) mixed (by kernel_rfl) ?_ | refine WC_region (id := 0) ?_ | refine WC_region (id := 5) ?_ | refine WC_region (id := 6) ?_ | refine WC_region (id := 7) ?_ | refine WC_region (id := 9) ?_ | refine WC_region (id := 10) ?_ | refine WC_region (id := 11) ?_ | refine WC_region (id := 12) ?_ | refine WC_region (id := 13) ?_ | refine WC_region (id := 14) ?_)
    exact ⟨rfl, _, _, Res0 rfl, .refl _, rfl, Lp3, rfl, fin (by unfold MV.body; rw [if_neg (by omega), if_neg (by omega), if_neg (by omega), if_neg (by omega), if_pos hk]) hM3⟩
  have d0 : (m.kind == 0) = false := by simpa using (show ¬ m.kind = 0 by omega)
  have d1 : (m.kind == 1) = false := by simpa using (show ¬ m.kind = 1 by omega)
  have d2 : (m.kind == 2) = false := by simpa using (show ¬ m.kind = 2 by omega)
  have d3 : (m.kind == 3) = false := by simpa using (show ¬ m.kind = 3 by omega)
  have d4 : (m.kind == 4) = false := by simpa using (show ¬ m.kind = 4 by omega)
  repeat (first | refine RQr ?_ | ((first | refine WL_Q ?_ | refine WL_Y ?_ | refine WR_Q rfl ?_ | refine WR_late rfl rfl rfl (OW_Q ?_) | refine WR_Y rfl ?_); (first | refine QW_of (Qt_nilCheck_m rfl) ?_)) | refine RC ?_ | refine RU ?_ | refine WC_draw_all (id := 8) 8 (.calm 0 <| .calm 1 <| .calm 2 <| .calm 3 <| .calm 4 <| .calm 5 <| .calm 6 <| .must 7 <| .done) mixed (by kernel_rfl) ?_ | refine WC_region (id := 4) ?_ | refine WC_region (id := 5) ?_ | refine WC_region (id := 6) ?_ | refine WC_region (id := 7) ?_ | refine WC_region (id := 9) ?_ | refine WC_region (id := 10) ?_ | refine WC_region (id := 11) ?_ | refine WC_region (id := 12) ?_ | refine WC_region (id := 13) ?_ | refine WC_region (id := 14) ?_)
  exact ⟨rfl, _, _, Res0 rfl, .refl _, rfl, Lp2, rfl, fin (x := []) (by unfold MV.body; rw [if_neg (by omega), if_neg (by omega), if_neg (by omega), if_neg (by omega), if_neg (by omega)]) (by rw [List.append_nil]; exact hM2)⟩
end
end Go.Proofs.YtakedlockchpcaaGreatDoor
namespace Go.Proofs.YtakedlockchpcaaGreatDoor
open Go.RowKit
attribute [local irreducible] Fn WC WL WR OW Qt YieldFn QW FnP FnD FnE
theorem by_T0 {L : List (Nat × Obj)} {v : Value} {bs : List UInt8} (h : ByAt L v bs) : ∃ a cap T0, v = .slice a bs.length cap ∧ bs.length ≤ cap ∧ cap ≤ maxLen ∧ (∀ q ∈ T0, q ∈ L) ∧ ByAt T0 (.slice a bs.length bs.length) bs := by
  obtain ⟨h1, a, cap, rfl, h3, h4, h5⟩ := h
  rcases h5 with h5 | ⟨b, off, cs, E, fr, i, e1, e2, e3⟩
  · refine ⟨a, cap, [], rfl, h3, h4, (fun q hq => (by cases hq)), h1, a, bs.length, rfl, Nat.le_refl _, by omega, .inl h5⟩
  · exact ⟨a, cap, [(b, .cells cs E fr)], rfl, h3, h4, fun q hq => by rw [List.mem_singleton.1 hq]; exact List.mem_of_getElem? e2, h1, a, bs.length, rfl, Nat.le_refl _, by omega, .inr ⟨b, off, cs, E, fr, 0, e1, rfl, e3⟩⟩
theorem Elems.mem {R R' : List (Nat × Obj)} {a : Option Addr} {n : Nat} {vss : List (List Value)} (h : Elems R a n vss) (hs : ∀ q ∈ R, q ∈ R') : Elems R' a n vss := by
  rcases h with h | ⟨be, eo, ie, ec, EE, ef, h1, h2, h3⟩
  · exact .inl h
  · obtain ⟨j, hj⟩ := List.mem_iff_getElem?.1 (hs _ (List.mem_of_getElem? h2))
    exact .inr ⟨be, eo, j, ec, EE, ef, h1, hj, h3⟩
theorem MV.enc_pos (m : MV) : 0 < m.enc.length := by
  have := Go.Proofs.YtakedlockchpcaaGreatDoor.enc_pos (zz m.kind)
  unfold MV.enc; rw [List.length_append]; omega
set_option maxHeartbeats 2000000 in
theorem laid_Rec {v : Value} {bs l : List UInt8} {cs : Array Value} {L : List (Nat × Obj)} {fu : FuncId} [FCall Tryz.prog fu] (hb : ByAt L v bs) (hlen : 0 < l.length)
    (hf : ∀ (pb : Nat) (T0 : List (Nat × Obj)) (xb : Nat) (Lp : List (Nat × Obj)), PMem pb T0 bs.length bs Lp → (∀ q ∈ T0, q ∈ ((xb, Obj.cells cs 25 (0, 0)) :: L)) → Fn Tryz.prog fu [putV pb, .pointer (some ⟨xb, 0, none⟩)] (Lp ++ ((xb, Obj.cells cs 25 (0, 0)) :: L)) (fun v L' => v = .tuple #[] ∧ ∃ Lp', L' = Lp' ++ ((xb, Obj.cells cs 25 (0, 0)) :: L) ∧ PMem pb T0 bs.length (bs ++ l) Lp')) :
    Fn Tryz.prog 53 [v, .agg cs, .func (.func fu) #[] #[]] L (fun r L' => LaidAt r L L' (bs ++ l)) := by
  obtain ⟨a, cap, T0, rfl, hc1, hc2, hT, hb0⟩ := by_T0 hb
  refine Fn_enter Tryz.func53 rfl Tryz.ntmps53 rfl fun g => ?_
  repeat (first | refine RQ ?_ | (refine RE ?_; try intro _) | refine RC ?_ | refine WC_region ?_)
  rename_i xb pb
  refine WL_op rfl ?_
  refine OW_callE rfl (FnE.ofFn (Rp := fun _ _ => False) (hf pb T0 xb [(pb, Obj.cells #[.slice a bs.length bs.length] 177 (0, 0))] ⟨_, [], rfl, hb0, .inl ⟨rfl, rfl, a, rfl⟩⟩ (fun q hq => List.mem_cons_of_mem _ (hT q hq)))) ?_ (fun _ _ h => h.elim)
  rintro _ _ ⟨rfl, _, rfl, v', T, rfl, _, hc⟩
  rcases hc with ⟨_, hc, _⟩ | ⟨g', off, cap', cur, rfl, rfl, hown⟩
  · rw [List.length_append] at hc; omega
  repeat (first | refine RQ ?_ | (refine RE ?_; try intro _) | refine RC ?_ | refine WC_region ?_)
  exact ⟨rfl, _, (g', .cells cur 5 (0, 0)) :: L, Res1 rfl (resV_tmp rfl), .cons_cons _ (.cons _ (.cons _ (.refl _))), g', off, cap', cur, rfl, rfl, hown⟩
set_option maxHeartbeats 2000000 in
theorem laid_Msg {v : Value} {bs l : List UInt8} {cs : Array Value} {L : List (Nat × Obj)} {fu : FuncId} [FCall Tryz.prog fu] (hb : ByAt L v bs) (hlen : 0 < l.length)
    (hf : ∀ (pb : Nat) (T0 : List (Nat × Obj)) (xb : Nat) (Lp : List (Nat × Obj)), PMem pb T0 bs.length bs Lp → (∀ q ∈ T0, q ∈ ((xb, Obj.cells cs 35 (0, 0)) :: L)) → Fn Tryz.prog fu [putV pb, .pointer (some ⟨xb, 0, none⟩)] (Lp ++ ((xb, Obj.cells cs 35 (0, 0)) :: L)) (fun v L' => v = .tuple #[] ∧ ∃ Lp', L' = Lp' ++ ((xb, Obj.cells cs 35 (0, 0)) :: L) ∧ PMem pb T0 bs.length (bs ++ l) Lp')) :
    Fn Tryz.prog 46 [v, .agg cs, .func (.func fu) #[] #[]] L (fun r L' => LaidAt r L L' (bs ++ l)) := by
  obtain ⟨a, cap, T0, rfl, hc1, hc2, hT, hb0⟩ := by_T0 hb
  refine Fn_enter Tryz.func46 rfl Tryz.ntmps46 rfl fun g => ?_
  repeat (first | refine RQ ?_ | (refine RE ?_; try intro _) | refine RC ?_ | refine WC_region ?_)
  rename_i xb pb
  refine WL_op rfl ?_
  refine OW_callE rfl (FnE.ofFn (Rp := fun _ _ => False) (hf pb T0 xb [(pb, Obj.cells #[.slice a bs.length bs.length] 177 (0, 0))] ⟨_, [], rfl, hb0, .inl ⟨rfl, rfl, a, rfl⟩⟩ (fun q hq => List.mem_cons_of_mem _ (hT q hq)))) ?_ (fun _ _ h => h.elim)
  rintro _ _ ⟨rfl, _, rfl, v', T, rfl, _, hc⟩
  rcases hc with ⟨_, hc, _⟩ | ⟨g', off, cap', cur, rfl, rfl, hown⟩
  · rw [List.length_append] at hc; omega
  repeat (first | refine RQ ?_ | (refine RE ?_; try intro _) | refine RC ?_ | refine WC_region ?_)
  exact ⟨rfl, _, (g', .cells cur 5 (0, 0)) :: L, Res1 rfl (resV_tmp rfl), .cons_cons _ (.cons _ (.cons _ (.refl _))), g', off, cap', cur, rfl, rfl, hown⟩
set_option maxHeartbeats 1000000 in
theorem PMsg_fn {v : Value} {bs : List UInt8} {cs : Array Value} {L : List (Nat × Obj)} {a : Option Addr} {cap : Nat} {a' : Option Addr} {cap' : Nat} {m : MV} (hb : ByAt L v bs) (hz : cs.size = 24) (hm : m.Ok) (hn : m.bins.length ≤ 1000000) (hn' : m.ents.length ≤ 100000) (hl : Lies cs 0 (m.cells a cap a' cap')) (he : Elems L a 1 m.bins) (he' : Elems L a' 10 m.ents) (hroom : bs.length ≤ 900000000) :
    Fn Tryz.prog 11 [v, .agg cs] L (fun r L' => LaidAt r L L' (bs ++ m.enc)) := by
  refine Fn_enter Tryz.func11 rfl Tryz.ntmps11 rfl fun g => ?_
  repeat (first | refine RQ ?_ | (refine RE ?_; try intro _) | refine RC ?_ | refine WC_region ?_)
  rename_i xb
  refine WL_op rfl ?_
  refine OW_callE rfl (FnE.ofFn (Rp := fun _ _ => False) (laid_Msg (l := m.enc) (hb.cons _) (m.enc_pos) fun pb T0 xb2 Lp hM hT => pmsg (i := 0) hM hT hm hn (by omega) (by omega) rfl hl (he.mem fun q hq => List.mem_cons_of_mem _ (List.mem_cons_of_mem _ hq)) (he'.mem fun q hq => List.mem_cons_of_mem _ (List.mem_cons_of_mem _ hq)) (Free.zero _ _))) ?_ (fun _ _ h => h.elim)
  rintro _ _ ⟨g', off, cap', cur, rfl, rfl, hown⟩
  repeat (first | refine RQ ?_ | (refine RE ?_; try intro _) | refine RC ?_ | refine WC_region ?_)
  exact ⟨rfl, _, (g', .cells cur 5 (0, 0)) :: L, Res1 rfl (resV_tmp rfl), .cons_cons _ (.cons _ (.refl _)), g', off, cap', cur, rfl, rfl, hown⟩
end Go.Proofs.YtakedlockchpcaaGreatDoor
namespace Go.Proofs.YtakedlockchpcaaGreatDoor
open Go.RowKit
attribute [local irreducible] Fn WC WL WR OW Qt YieldFn QW FnP FnD FnE
theorem lies_extract {cs : Array Value} {a n : Nat} {vs : List Value} (h : Lies cs a vs) (hn : vs.length ≤ n) : Lies (cs.extract a (a + n)) 0 vs := fun j v hj => by
  have hlt := (List.getElem?_eq_some_iff.1 hj).1
  have := h j v hj
  have hc := (Array.getElem?_eq_some_iff.1 this).1
  rw [Nat.zero_add, Array.getElem?_extract, if_pos (by omega)]
  exact this
theorem size_extract {cs : Array Value} {a n : Nat} (h : a + n ≤ cs.size) : (cs.extract a (a + n)).size = n := by simp; omega
theorem lies0 {cs : Array Value} {vs : List Value} (h : Lies cs 0 vs) {j : Nat} {v : Value} (hj : vs[j]? = some v) : cs[j]? = some v := by
  have := h j v hj
  rwa [Nat.zero_add] at this
theorem rW_fn {x : Int} {L : List (Nat × Obj)} (h0 : -9223372036854775808 ≤ x) (h1 : x < 9223372036854775808) : Fn Tryz.prog 48 [.int .i64 x] L (fun r L' => r = .string (bstr (enc (zz x))) ∧ L' = L) := by
  refine Fn_enter Tryz.func48 rfl Tryz.ntmps48 rfl fun g => ?_
  repeat (first | refine RQ ?_ | ((first | refine WL_op rfl ?_); (first | refine OW_callP rfl (hF := Int_fn (by with_reducible assumption) (by with_reducible assumption)) (hk := ?_))) | refine RC ?_ | refine WC_region ?_)
  exact ⟨rfl, _, _, Res1 rfl (resV_tmp rfl), .refl _, rfl, rfl⟩
set_option maxHeartbeats 4000000 in
theorem rRec_fn {cs : Array Value} {vs : List Value} {L : List (Nat × Obj)} (hv : Oks recF vs) (hl : Lies cs 0 vs) : Fn Tryz.prog 16 [.agg cs] L (fun r L' => r = .string (bstr (encs recF vs)) ∧ L' = L) := by
  obtain ⟨x0, us, rfl, xh0, hv⟩ := hv.split
  obtain ⟨x1, us, rfl, xh1, hv⟩ := hv.split
  obtain ⟨x2, us, rfl, xh2, hv⟩ := hv.split
  obtain ⟨x3, us, rfl, xh3, hv⟩ := hv.split
  obtain ⟨x4, us, rfl, xh4, hv⟩ := hv.split
  obtain ⟨x5, us, rfl, xh5, hv⟩ := hv.split
  obtain rfl := hv.nil
  have ex0 := enc_len_ok xh0
  obtain ⟨x0, rfl, x0lo, x0hi⟩ := xh0
  have x0w : IntKind.u64.wrap x0 = x0 := wU64 x0lo (by omega)
  have x0wl := u64_lo x0
  have x0wh := u64_hi x0
  have fx0 : (enc (IntKind.u64.wrap x0).toNat).length ≤ 10 := by rw [x0w]; exact ex0
  have ex1 := enc_len_ok xh1
  obtain ⟨x1, rfl, x1lo, x1hi⟩ := xh1
  have fx1 : (enc (zz x1)).length ≤ 10 := ex1
  have ex2 := enc_len_ok xh2
  obtain ⟨x2, rfl, x2lo, x2hi⟩ := xh2
  have fx2 : (enc (zz x2)).length ≤ 10 := ex2
  have ex3 := enc_len_ok xh3
  obtain ⟨x3, rfl⟩ := xh3
  have ex4 := enc_len_ok xh4
  obtain ⟨x4, rfl⟩ := xh4
  have fx4 : (encB x4).length ≤ 10 := ex4
  have ex5 := enc_len_ok xh5
  obtain ⟨x5, rfl⟩ := xh5
  have fx5 : (encB x5).length ≤ 10 := ex5
  have c0 := lies0 hl (j := 0) rfl
  have c1 := lies0 hl (j := 1) rfl
  have c2 := lies0 hl (j := 2) rfl
  have c3 := lies0 hl (j := 3) rfl
  have c4 := lies0 hl (j := 4) rfl
  have c5 := lies0 hl (j := 5) rfl
  refine Fn_enter Tryz.func16 rfl Tryz.ntmps16 rfl fun g => ?_
  repeat' (first | refine RQr ?_ | ((first | refine WL_op rfl ?_ | refine WR_late rfl rfl rfl ?_ | refine WR_opG rfl rfl ?_); (first | (refine OE ?_; try intro _) | refine OW_callP rfl (hF := Int_fn (by with_reducible assumption) (by with_reducible assumption)) (hk := ?_) | refine OW_callP rfl (hF := Num_fn' (by with_reducible assumption) (by with_reducible assumption)) (hk := ?_) | refine OW_callP rfl (hF := Truth_fn) (hk := ?_)); try refine SD ?_) | refine RC ?_ | refine RU ?_ | refine WC_draw_all (id := 1) 26 (.calm 0 <| .calm 1 <| .calm 2 <| .calm 4 <| .calm 5 <| .calm 8 <| .calm 9 <| .calm 12 <| .calm 13 <| .calm 17 <| .calm 18 <| .calm 21 <| .calm 22 <| .either 3 (.either 6 (.calm 7 <| .either 10 (.calm 11 <| .either 14 (.calm 15 <| .calm 16 <| .must 19 <| .calm 20 <| .must 23 <| .calm 24 <| .calm 25 <| .done) 19 (.either 14 (.calm 15 <| .calm 16 <| .calm 20 <| .must 23 <| .calm 24 <| .calm 25 <| .done) 23 (.must 14 <| .calm 15 <| .calm 16 <| .calm 20 <| .calm 24 <| .calm 25 <| .done))) 14 (.calm 15 <| .must 10 <| .calm 11 <| .calm 16 <| .must 19 <| .calm 20 <| .must 23 <| .calm 24 <| .calm 25 <| .done)) 14 (.calm 15 <| .must 6 <| .calm 7 <| .must 10 <| .calm 11 <| .calm 16 <| .must 19 <| .calm 20 <| .must 23 <| .calm 24 <| .calm 25 <| .done)) 14 (.calm 15 <| .must 3 <| .must 6 <| .calm 7 <| .must 10 <| .calm 11 <| .calm 16 <| .must 19 <| .calm 20 <| .must 23 <| .calm 24 <| .calm 25 <| .done)) mixed (by kernel_rfl) ?_ | refine WC_region ?_ | refine WR_either ?_ ?_)
  all_goals
    refine ⟨rfl, _, _, Res1 rfl (resV_tmp rfl), .cons _ (.cons _ (.refl _)), ?_, rfl⟩
    simp [encs, Fk.enc, bV, x0w]
set_option maxHeartbeats 4000000 in
theorem rOp_fn {cs : Array Value} {vs : List Value} {L : List (Nat × Obj)} (hv : Oks opF vs) (hl : Lies cs 0 vs) : Fn Tryz.prog 20 [.agg cs] L (fun r L' => r = .string (bstr (encs opF vs)) ∧ L' = L) := by
  obtain ⟨x0, us, rfl, xh0, hv⟩ := hv.split
  obtain ⟨x1, us, rfl, xh1, hv⟩ := hv.split
  obtain ⟨x2, us, rfl, xh2, hv⟩ := hv.split
  obtain ⟨x3, us, rfl, xh3, hv⟩ := hv.split
  obtain rfl := hv.nil
  have ex0 := enc_len_ok xh0
  obtain ⟨x0, rfl, x0lo, x0hi⟩ := xh0
  have fx0 : (enc (zz x0)).length ≤ 10 := ex0
  have ex1 := enc_len_ok xh1
  obtain ⟨x1, rfl, x1lo, x1hi⟩ := xh1
  have fx1 : (enc (zz x1)).length ≤ 10 := ex1
  have ex2 := enc_len_ok xh2
  obtain ⟨x2, rfl, x2lo, x2hi⟩ := xh2
  have fx2 : (enc (zz x2)).length ≤ 10 := ex2
  have ex3 := enc_len_ok xh3
  obtain ⟨x3, rfl, x3lo, x3hi⟩ := xh3
  have fx3 : (enc (zz x3)).length ≤ 10 := ex3
  have c0 := lies0 hl (j := 0) rfl
  have c1 := lies0 hl (j := 1) rfl
  have c2 := lies0 hl (j := 2) rfl
  have c3 := lies0 hl (j := 3) rfl
  refine Fn_enter Tryz.func20 rfl Tryz.ntmps20 rfl fun g => ?_
  repeat (first | refine RQr ?_ | ((first | refine WL_op rfl ?_ | refine WR_late rfl rfl rfl ?_ | refine WR_opG rfl rfl ?_); (first | (refine OE ?_; try intro _) | refine OW_callP rfl (hF := Int_fn (by with_reducible assumption) (by with_reducible assumption)) (hk := ?_) | refine OW_callP rfl (hF := rW_fn (by with_reducible assumption) (by with_reducible assumption)) (hk := ?_)); try refine SD ?_) | refine RC ?_ | refine RU ?_ | refine WC_draw_all (id := 1) 16 (.calm 0 <| .calm 1 <| .calm 3 <| .calm 4 <| .calm 7 <| .calm 8 <| .calm 11 <| .calm 12 <| .must 2 <| .must 5 <| .calm 6 <| .must 9 <| .calm 10 <| .must 13 <| .calm 14 <| .calm 15 <| .done) mixed (by kernel_rfl) ?_ | refine WC_region ?_)
  refine ⟨rfl, _, _, Res1 rfl (resV_tmp rfl), .cons _ (.refl _), ?_, rfl⟩
  simp [encs, Fk.enc]
set_option maxHeartbeats 4000000 in
theorem rAcc_fn {cs : Array Value} {vs : List Value} {L : List (Nat × Obj)} (hv : Oks accF vs) (hl : Lies cs 0 vs) : Fn Tryz.prog 24 [.agg cs] L (fun r L' => r = .string (bstr (encs accF vs)) ∧ L' = L) := by
  obtain ⟨x0, us, rfl, xh0, hv⟩ := hv.split
  obtain ⟨x1, us, rfl, xh1, hv⟩ := hv.split
  obtain ⟨x2, us, rfl, xh2, hv⟩ := hv.split
  obtain ⟨x3, us, rfl, xh3, hv⟩ := hv.split
  obtain ⟨x4, us, rfl, xh4, hv⟩ := hv.split
  obtain rfl := hv.nil
  have ex0 := enc_len_ok xh0
  obtain ⟨x0, rfl, x0lo, x0hi⟩ := xh0
  have fx0 : (enc (zz x0)).length ≤ 10 := ex0
  have ex1 := enc_len_ok xh1
  obtain ⟨x1, rfl, x1lo, x1hi⟩ := xh1
  have fx1 : (enc (zz x1)).length ≤ 10 := ex1
  have ex2 := enc_len_ok xh2
  obtain ⟨x2, rfl, x2lo, x2hi⟩ := xh2
  have fx2 : (enc x2.toNat).length ≤ 10 := ex2
  have ex3 := enc_len_ok xh3
  obtain ⟨x3, rfl, x3lo, x3hi⟩ := xh3
  have fx3 : (enc (zz x3)).length ≤ 10 := ex3
  have ex4 := enc_len_ok xh4
  obtain ⟨x4, rfl, x4lo, x4hi⟩ := xh4
  have fx4 : (enc (zz x4)).length ≤ 10 := ex4
  have c0 := lies0 hl (j := 0) rfl
  have c1 := lies0 hl (j := 1) rfl
  have c2 := lies0 hl (j := 2) rfl
  have c3 := lies0 hl (j := 3) rfl
  have c4 := lies0 hl (j := 4) rfl
  refine Fn_enter Tryz.func24 rfl Tryz.ntmps24 rfl fun g => ?_
  repeat (first | refine RQr ?_ | ((first | refine WL_op rfl ?_ | refine WR_late rfl rfl rfl ?_ | refine WR_opG rfl rfl ?_); (first | (refine OE ?_; try intro _) | refine OW_callP rfl (hF := Int_fn (by with_reducible assumption) (by with_reducible assumption)) (hk := ?_) | refine OW_callP rfl (hF := Num_fn' (by with_reducible assumption) (by with_reducible assumption)) (hk := ?_)); try refine SD ?_) | refine RC ?_ | refine RU ?_ | refine WC_draw_all (id := 1) 20 (.calm 0 <| .calm 1 <| .calm 3 <| .calm 4 <| .calm 7 <| .calm 8 <| .calm 11 <| .calm 12 <| .calm 15 <| .calm 16 <| .must 2 <| .must 5 <| .calm 6 <| .must 9 <| .calm 10 <| .must 13 <| .calm 14 <| .must 17 <| .calm 18 <| .calm 19 <| .done) mixed (by kernel_rfl) ?_ | refine WC_region ?_)
  refine ⟨rfl, _, _, Res1 rfl (resV_tmp rfl), .cons _ (.refl _), ?_, rfl⟩
  simp [encs, Fk.enc]
set_option maxHeartbeats 4000000 in
theorem rEntry_fn {cs : Array Value} {vs : List Value} {L : List (Nat × Obj)} (hz : cs.size = 10) (hv : Oks entryF vs) (hl : Lies cs 0 vs) : Fn Tryz.prog 22 [.agg cs] L (fun r L' => r = .string (bstr (encs entryF vs)) ∧ L' = L) := by
  obtain ⟨x0, us, rfl, xh0, hv⟩ := hv.split
  obtain ⟨x1, us, rfl, xh1, hv⟩ := hv.split
  obtain ⟨x2, us, rfl, xh2, hv⟩ := hv.split
  obtain ⟨x3, us, rfl, xh3, hv⟩ := hv.split
  obtain ⟨x4, us, rfl, xh4, hv⟩ := hv.split
  obtain ⟨x5, us, rfl, xh5, hv⟩ := hv.split
  obtain ⟨x6, us, rfl, xh6, hv⟩ := hv.split
  obtain ⟨x7, us, rfl, xh7, hv⟩ := hv.split
  obtain ⟨x8, us, rfl, xh8, hv⟩ := hv.split
  obtain ⟨x9, us, rfl, xh9, hv⟩ := hv.split
  obtain rfl := hv.nil
  have hs5 : Oks accF [x5, x6, x7, x8, x9] := ⟨xh5, xh6, xh7, xh8, xh9, trivial⟩
  have hl5 : Lies (cs.extract 5 (5 + 5)) 0 [x5, x6, x7, x8, x9] := lies_extract (by have h := hl.cut 5 5; rwa [Nat.zero_add] at h) (Nat.le_refl _)
  have hsl5 := encs_len hs5
  simp only [List.length_cons, List.length_nil] at hsl5
  have ex0 := enc_len_ok xh0
  obtain ⟨x0, rfl, x0lo, x0hi⟩ := xh0
  have fx0 : (enc (zz x0)).length ≤ 10 := ex0
  have ex1 := enc_len_ok xh1
  obtain ⟨x1, rfl, x1lo, x1hi⟩ := xh1
  have x1w : IntKind.u64.wrap x1 = x1 := wU64 x1lo (by omega)
  have x1wl := u64_lo x1
  have x1wh := u64_hi x1
  have fx1 : (enc (IntKind.u64.wrap x1).toNat).length ≤ 10 := by rw [x1w]; exact ex1
  have ex2 := enc_len_ok xh2
  obtain ⟨x2, rfl, x2lo, x2hi⟩ := xh2
  have fx2 : (enc (zz x2)).length ≤ 10 := ex2
  have ex3 := enc_len_ok xh3
  obtain ⟨x3, rfl, x3lo, x3hi⟩ := xh3
  have fx3 : (enc (zz x3)).length ≤ 10 := ex3
  have ex4 := enc_len_ok xh4
  obtain ⟨x4, rfl⟩ := xh4
  have ex5 := enc_len_ok xh5
  have ex6 := enc_len_ok xh6
  have ex7 := enc_len_ok xh7
  have ex8 := enc_len_ok xh8
  have ex9 := enc_len_ok xh9
  have c0 := lies0 hl (j := 0) rfl
  have c1 := lies0 hl (j := 1) rfl
  have c2 := lies0 hl (j := 2) rfl
  have c3 := lies0 hl (j := 3) rfl
  have c4 := lies0 hl (j := 4) rfl
  refine Fn_enter Tryz.func22 rfl Tryz.ntmps22 rfl fun g => ?_
  repeat' (first | refine RQr ?_ | ((first | refine WL_op rfl ?_ | refine WR_late rfl rfl rfl ?_ | refine WR_opG rfl rfl ?_); (first | (refine OE ?_; try intro _) | refine OW_callP rfl (hF := Int_fn (by with_reducible assumption) (by with_reducible assumption)) (hk := ?_) | refine OW_callP rfl (hF := Num_fn' (by with_reducible assumption) (by with_reducible assumption)) (hk := ?_) | refine OW_callP rfl (hF := rW_fn (by with_reducible assumption) (by with_reducible assumption)) (hk := ?_) | refine OW_callP rfl (hF := rAcc_fn hs5 hl5) (hk := ?_)); try refine SD ?_) | refine RC ?_ | refine RU ?_ | refine WC_draw_all (id := 1) 26 (.calm 0 <| .calm 1 <| .calm 3 <| .calm 4 <| .calm 5 <| .calm 8 <| .calm 9 <| .calm 12 <| .calm 13 <| .calm 16 <| .calm 17 <| .calm 21 <| .calm 22 <| .either 2 (.either 6 (.calm 7 <| .either 10 (.calm 11 <| .either 14 (.calm 15 <| .either 18 (.calm 19 <| .calm 20 <| .must 23 <| .calm 24 <| .calm 25 <| .done) 23 (.must 18 <| .calm 19 <| .calm 20 <| .calm 24 <| .calm 25 <| .done)) 18 (.calm 19 <| .must 14 <| .calm 15 <| .calm 20 <| .must 23 <| .calm 24 <| .calm 25 <| .done)) 18 (.calm 19 <| .must 10 <| .calm 11 <| .must 14 <| .calm 15 <| .calm 20 <| .must 23 <| .calm 24 <| .calm 25 <| .done)) 18 (.calm 19 <| .must 6 <| .calm 7 <| .must 10 <| .calm 11 <| .must 14 <| .calm 15 <| .calm 20 <| .must 23 <| .calm 24 <| .calm 25 <| .done)) 18 (.calm 19 <| .must 2 <| .must 6 <| .calm 7 <| .must 10 <| .calm 11 <| .must 14 <| .calm 15 <| .calm 20 <| .must 23 <| .calm 24 <| .calm 25 <| .done)) mixed (by kernel_rfl) ?_ | refine WC_region ?_ | refine WR_either ?_ ?_)
  all_goals
    refine ⟨rfl, _, _, Res1 rfl (resV_tmp rfl), .cons _ (.cons _ (.refl _)), ?_, rfl⟩
    simp [encs, Fk.enc, bV, x1w]
end Go.Proofs.YtakedlockchpcaaGreatDoor
namespace Go.Proofs.YtakedlockchpcaaGreatDoor
open Go.RowKit
attribute [local irreducible] Fn WC WL WR OW Qt YieldFn QW FnP FnD FnE
set_option maxHeartbeats 4000000 in
theorem rCmd_fn {cs : Array Value} {L : List (Nat × Obj)} {a : Option Addr} {cap : Nat} {ch ct : List Value} {bins : List (List Value)} (hz : cs.size = 10) (hn : bins.length ≤ 1000000) (hch : Oks chF ch) (hct : Oks ctF ct) (hb : ∀ vs ∈ bins, Oks binF vs) (hl : Lies cs 0 (ch ++ (.slice a bins.length cap :: ct))) (he : Elems L a 1 bins) :
    Fn Tryz.prog 18 [.agg cs] L (fun r L' => r = .string (bstr (encCmd ch bins ct)) ∧ L' = L) := by
  obtain ⟨v0, us0, rfl, h0, q0⟩ := hch.split
  obtain ⟨v1, us1, rfl, h1, q1⟩ := q0.split
  obtain rfl := q1.nil
  obtain ⟨c0, rfl, a0, b0⟩ := h0
  obtain ⟨c1, rfl, a1, b1⟩ := h1
  obtain ⟨w0, ws0, rfl, k0, r0⟩ := hct.split
  obtain ⟨w1, ws1, rfl, k1, r1⟩ := r0.split
  obtain ⟨t2, ws2, rfl, k2, r2⟩ := r1.split
  obtain ⟨t3, ws3, rfl, k3, r3⟩ := r2.split
  obtain ⟨t4, ws4, rfl, k4, r4⟩ := r3.split
  obtain ⟨t5, ws5, rfl, k5, r5⟩ := r4.split
  obtain ⟨w6, ws6, rfl, k6, r6⟩ := r5.split
  obtain rfl := r6.nil
  obtain ⟨t0, rfl, a2, b2⟩ := k0
  obtain ⟨t1, rfl, a3, b3⟩ := k1
  obtain ⟨t6, rfl, a6, b6⟩ := k6
  have hop : Oks opF [t2, t3, t4, t5] := ⟨k2, k3, k4, k5, trivial⟩
  have hlop : Lies (cs.extract 5 (5 + 4)) 0 [t2, t3, t4, t5] := lies_extract (by have h := hl.cut 5 4; rwa [Nat.zero_add] at h) (Nat.le_refl _)
  have eop := encs_len hop
  simp only [List.length_cons, List.length_nil] at eop
  have f0 := enc_len (zz_lt a0 b0)
  have f1 := enc_len (zz_lt a1 b1)
  have f2 := enc_len (zz_lt a2 b2)
  have f3 := enc_len (zz_lt a3 b3)
  have f6 := enc_len (zz_lt a6 b6)
  have u0 := u64_lo ((bins.length : Nat) : Int)
  have u1 := u64_hi ((bins.length : Nat) : Int)
  have uw : (IntKind.u64.wrap ((bins.length : Nat) : Int)).toNat = bins.length := by rw [wU64 (by omega) (by omega)]; omega
  have fn : (enc (IntKind.u64.wrap ((bins.length : Nat) : Int)).toNat).length ≤ 10 := by rw [uw]; exact enc_len (by omega)
  have g0 := lies0 hl (j := 0) rfl
  have g1 := lies0 hl (j := 1) rfl
  have g2 := lies0 hl (j := 2) rfl
  have g3 := lies0 hl (j := 3) rfl
  have g4 := lies0 hl (j := 4) rfl
  have g9 := lies0 hl (j := 9) rfl
  refine Fn_enter Tryz.func18 rfl Tryz.ntmps18 rfl fun g => ?_
  repeat (first | refine RQr ?_ | ((first | refine WL_op rfl ?_ | refine WR_late rfl rfl rfl ?_ | refine WR_opG rfl rfl ?_); (first | (refine OE ?_; try intro _) | refine OW_callP rfl (hF := Int_fn (by with_reducible assumption) (by with_reducible assumption)) (hk := ?_) | refine OW_callP rfl (hF := Num_fn' (by with_reducible assumption) (by with_reducible assumption)) (hk := ?_) | refine OW_callP rfl (hF := rW_fn (by with_reducible assumption) (by with_reducible assumption)) (hk := ?_)); try refine SD ?_) | refine RC0 ?_ | refine RU ?_ | refine WC_block (id := 1) ?_ | refine WC_draw_all (id := 1) 14 (.calm 0 <| .calm 1 <| .calm 3 <| .calm 4 <| .calm 7 <| .calm 8 <| .calm 9 <| .calm 10 <| .must 2 <| .must 5 <| .calm 6 <| .must 11 <| .calm 12 <| .calm 13 <| .done) mixed (by kernel_rfl) ?_ | refine WC_draw_all (id := 6) 18 (.calm 0 <| .calm 1 <| .calm 2 <| .calm 5 <| .calm 6 <| .calm 9 <| .calm 10 <| .calm 13 <| .calm 14 <| .must 3 <| .calm 4 <| .must 7 <| .calm 8 <| .must 11 <| .calm 12 <| .must 15 <| .calm 16 <| .calm 17 <| .done) mixed (by kernel_rfl) ?_ | refine WC_region ?_)
  rename_i xb
  rw [uw]
  obtain ⟨pre, hpre⟩ : ∃ pre, pre = enc (zz c0) ++ enc (zz c1) ++ enc bins.length := ⟨_, rfl⟩
  rw [← hpre]
  have hprel : pre.length ≤ 30 := by
    rw [uw] at fn
    rw [hpre, List.length_append, List.length_append]; omega
  refine WC_meet (fun σ => σ = ⟨[(3, .string (bstr (pre ++ bins.flatMap (encs binF)))), (1, .pointer (some ⟨xb, 0, none⟩))], [], (xb, .cells cs 30 (0, 0)) :: L⟩) ?_ ?_
  · refine WC_block (WC_wk [(4, .int .i64 0), (3, .string (bstr pre)), (1, .pointer (some ⟨xb, 0, none⟩))] ⟨rfl, rfl, rfl, trivial⟩ ?_)
    refine WC_loop (fun m σ => ∃ (j : Nat) (acc : List UInt8), m = bins.length - j ∧ j ≤ bins.length ∧ acc = pre ++ (bins.take j).flatMap (encs binF) ∧ σ = ⟨[(4, .int .i64 (j : Nat)), (3, .string (bstr acc)), (1, .pointer (some ⟨xb, 0, none⟩))], [], (xb, .cells cs 30 (0, 0)) :: L⟩) bins.length ⟨0, pre, by omega, by omega, by simp, rfl⟩ ?_
    rintro m σ ⟨j, acc, rfl, hj, hacc, rfl⟩
    by_cases hlt : j < bins.length
    · have d1 : decide (((j : Nat) : Int) < ((bins.length : Nat) : Int)) = true := decide_eq_true (by omega)
      obtain ⟨vs, hvs⟩ : ∃ vs, bins[j]? = some vs := ⟨_, List.getElem?_eq_getElem hlt⟩
      rcases he with he | ⟨be, eo, ie, ec, EE, ef, rfl, hRe, hat⟩
      · rw [he] at hlt; simp at hlt
      obtain ⟨hle, _⟩ := hat j vs hvs
      obtain ⟨v, us, rfl, hx, q⟩ := (hb vs (List.mem_of_getElem? hvs)).split
      obtain rfl := q.nil
      obtain ⟨x, rfl, x0, x1⟩ := hx
      have i1 : ((j : Nat) : Int) < ((bins.length : Nat) : Int) := by omega
      have i0 : 0 ≤ ((j : Nat) : Int) := by omega
      have hXe : ((xb, Obj.cells cs 30 (0, 0)) :: L)[ie + 1]? = some (be, .cells ec EE ef) := hRe
      have hce : ec[eo + ((j : Nat) : Int).toNat * 1]? = some (.int .i64 x) := hle 0 _ rfl
      have hal : acc.length ≤ 30 + 10 * j := by
        have h1 := encn_len (es := binF) (vss := bins.take j) fun vs hv => hb vs (List.mem_of_mem_take hv)
        have h2 : (bins.take j).length = j := by rw [List.length_take]; omega
        rw [h2, show binF.length = 1 from rfl] at h1
        rw [hacc, List.length_append]; omega
      have fx := enc_len (zz_lt x0 x1)
      have hcat : acc.length + (enc (zz x)).length ≤ 4611686018427387904 := by omega
      have hw1 : IntKind.i64.wrap (((j : Nat) : Int) + 1) = ((j + 1 : Nat) : Int) := by rw [wI64 (by omega) (by omega)]; omega
      repeat (first | refine RQr ?_ | ((first | refine WL_op rfl ?_ | refine WR_late rfl rfl rfl ?_ | refine WR_opG rfl rfl ?_); (first | (refine OE ?_; try intro _) | refine OW_callP rfl (hF := Int_fn (by with_reducible assumption) (by with_reducible assumption)) (hk := ?_) | refine OW_callP rfl (hF := Num_fn' (by with_reducible assumption) (by with_reducible assumption)) (hk := ?_) | refine OW_callP rfl (hF := rW_fn (by with_reducible assumption) (by with_reducible assumption)) (hk := ?_)); try refine SD ?_) | refine RC ?_ | refine RU ?_ | refine WC_draw_all (id := 1) 14 (.calm 0 <| .calm 1 <| .calm 3 <| .calm 4 <| .calm 7 <| .calm 8 <| .calm 9 <| .calm 10 <| .must 2 <| .must 5 <| .calm 6 <| .must 11 <| .calm 12 <| .calm 13 <| .done) mixed (by kernel_rfl) ?_ | refine WC_draw_all (id := 6) 18 (.calm 0 <| .calm 1 <| .calm 2 <| .calm 5 <| .calm 6 <| .calm 9 <| .calm 10 <| .calm 13 <| .calm 14 <| .must 3 <| .calm 4 <| .must 7 <| .calm 8 <| .must 11 <| .calm 12 <| .must 15 <| .calm 16 <| .calm 17 <| .done) mixed (by kernel_rfl) ?_ | refine WC_region ?_)
      rw [hw1]
      refine ⟨_, _, by omega, ⟨j + 1, acc ++ enc (zz x), rfl, by omega, ?_, rfl⟩, ⟨rfl, rfl, rfl, trivial⟩, rfl, .refl _⟩
      rw [hacc, List.take_add_one, hvs, List.flatMap_append]
      simp [encs, Fk.enc]
    · have d1 : decide (((j : Nat) : Int) < ((bins.length : Nat) : Int)) = false := decide_eq_false (by omega)
      obtain rfl : j = bins.length := by omega
      rw [List.take_length] at hacc
      subst hacc
      repeat (first | refine RQr ?_ | ((first | refine WL_op rfl ?_ | refine WR_late rfl rfl rfl ?_ | refine WR_opG rfl rfl ?_); (first | (refine OE ?_; try intro _) | refine OW_callP rfl (hF := Int_fn (by with_reducible assumption) (by with_reducible assumption)) (hk := ?_) | refine OW_callP rfl (hF := Num_fn' (by with_reducible assumption) (by with_reducible assumption)) (hk := ?_) | refine OW_callP rfl (hF := rW_fn (by with_reducible assumption) (by with_reducible assumption)) (hk := ?_)); try refine SD ?_) | refine RC ?_ | refine RU ?_ | refine WC_draw_all (id := 1) 14 (.calm 0 <| .calm 1 <| .calm 3 <| .calm 4 <| .calm 7 <| .calm 8 <| .calm 9 <| .calm 10 <| .must 2 <| .must 5 <| .calm 6 <| .must 11 <| .calm 12 <| .calm 13 <| .done) mixed (by kernel_rfl) ?_ | refine WC_draw_all (id := 6) 18 (.calm 0 <| .calm 1 <| .calm 2 <| .calm 5 <| .calm 6 <| .calm 9 <| .calm 10 <| .calm 13 <| .calm 14 <| .must 3 <| .calm 4 <| .must 7 <| .calm 8 <| .must 11 <| .calm 12 <| .must 15 <| .calm 16 <| .calm 17 <| .done) mixed (by kernel_rfl) ?_ | refine WC_region ?_)
      exact ⟨_, rfl, ⟨rfl, rfl, trivial⟩, rfl, .refl _⟩
  rintro _ rfl
  have hbl : (pre ++ bins.flatMap (encs binF)).length ≤ 30 + 10 * bins.length := by
    have h1 := encn_len (es := binF) hb
    rw [show binF.length = 1 from rfl] at h1
    rw [List.length_append]; omega
  generalize hs : pre ++ bins.flatMap (encs binF) = s at hbl
  repeat (first | refine RQr ?_ | ((first | refine WL_op rfl ?_ | refine WR_late rfl rfl rfl ?_ | refine WR_opG rfl rfl ?_); (first | (refine OE ?_; try intro _) | refine OW_callP rfl (hF := Int_fn (by with_reducible assumption) (by with_reducible assumption)) (hk := ?_) | refine OW_callP rfl (hF := Num_fn' (by with_reducible assumption) (by with_reducible assumption)) (hk := ?_) | refine OW_callP rfl (hF := rW_fn (by with_reducible assumption) (by with_reducible assumption)) (hk := ?_) | refine OW_callP rfl (hF := rOp_fn hop hlop) (hk := ?_)); try refine SD ?_) | refine RC ?_ | refine RU ?_ | refine WC_draw_all (id := 1) 14 (.calm 0 <| .calm 1 <| .calm 3 <| .calm 4 <| .calm 7 <| .calm 8 <| .calm 9 <| .calm 10 <| .must 2 <| .must 5 <| .calm 6 <| .must 11 <| .calm 12 <| .calm 13 <| .done) mixed (by kernel_rfl) ?_ | refine WC_draw_all (id := 6) 18 (.calm 0 <| .calm 1 <| .calm 2 <| .calm 5 <| .calm 6 <| .calm 9 <| .calm 10 <| .calm 13 <| .calm 14 <| .must 3 <| .calm 4 <| .must 7 <| .calm 8 <| .must 11 <| .calm 12 <| .must 15 <| .calm 16 <| .calm 17 <| .done) mixed (by kernel_rfl) ?_ | refine WC_region ?_)
  refine ⟨rfl, _, _, Res1 rfl (resV_tmp rfl), .cons _ (.refl _), ?_, rfl⟩
  rw [← hs, hpre]
  simp [encCmd, encl, encs, Fk.enc]
theorem lies_size {cs : Array Value} {a : Nat} {vs : List Value} (h : Lies cs a vs) (hn : 0 < vs.length) : a + vs.length ≤ cs.size := by
  have := h (vs.length - 1) (vs[vs.length - 1]'(by omega)) (List.getElem?_eq_getElem (by omega))
  have := (Array.getElem?_eq_some_iff.1 this).1
  omega
set_option maxHeartbeats 4000000 in
theorem rChunk_fn {cs : Array Value} {L : List (Nat × Obj)} {a : Option Addr} {cap : Nat} {kh : List Value} {ents : List (List Value)} (hn : ents.length ≤ 1000000) (hkh : Oks khF kh) (hb : ∀ vs ∈ ents, Oks entryF vs) (hl : Lies cs 0 (kh ++ [.slice a ents.length cap])) (he : Elems L a 10 ents) :
    Fn Tryz.prog 26 [.agg cs] L (fun r L' => r = .string (bstr (encChunk kh ents)) ∧ L' = L) := by
  obtain ⟨v0, us0, rfl, h0, q0⟩ := hkh.split
  obtain ⟨v1, us1, rfl, h1, q1⟩ := q0.split
  obtain ⟨v2, us2, rfl, h2, q2⟩ := q1.split
  obtain rfl := q2.nil
  have f2 := enc_len_ok h2
  obtain ⟨c0, rfl, a0, b0⟩ := h0
  obtain ⟨c1, rfl, a1, b1⟩ := h1
  obtain ⟨c2, rfl⟩ := h2
  have f2' : (encB c2).length ≤ 10 := f2
  have f0 := enc_len (zz_lt a0 b0)
  have f1 := enc_len (zz_lt a1 b1)
  have uw : (IntKind.u64.wrap ((ents.length : Nat) : Int)).toNat = ents.length := by rw [wU64 (by omega) (by omega)]; omega
  have fn : (enc (IntKind.u64.wrap ((ents.length : Nat) : Int)).toNat).length ≤ 10 := by rw [uw]; exact enc_len (by omega)
  have g0 := lies0 hl (j := 0) rfl
  have g1 := lies0 hl (j := 1) rfl
  have g2 := lies0 hl (j := 2) rfl
  have g3 := lies0 hl (j := 3) rfl
  refine Fn_enter Tryz.func26 rfl Tryz.ntmps26 rfl fun g => ?_
  have u0 := u64_lo ((ents.length : Nat) : Int)
  have u1 := u64_hi ((ents.length : Nat) : Int)
  repeat (first | refine RQr ?_ | ((first | refine WL_op rfl ?_ | refine WR_late rfl rfl rfl ?_ | refine WR_opG rfl rfl ?_); (first | (refine OE ?_; try intro _) | refine OW_callP rfl (hF := Num_fn' (by with_reducible assumption) (by with_reducible assumption)) (hk := ?_) | refine OW_callP rfl (hF := Truth_fn) (hk := ?_) | refine OW_callP rfl (hF := rW_fn (by with_reducible assumption) (by with_reducible assumption)) (hk := ?_)); try refine SD ?_) | refine RC0 ?_ | refine RU ?_ | refine WC_block (id := 1) ?_ | refine WC_draw_all (id := 1) 18 (.calm 0 <| .calm 1 <| .calm 3 <| .calm 4 <| .calm 7 <| .calm 8 <| .calm 11 <| .calm 12 <| .calm 13 <| .calm 14 <| .must 2 <| .must 5 <| .calm 6 <| .must 9 <| .calm 10 <| .must 15 <| .calm 16 <| .calm 17 <| .done) mixed (by kernel_rfl) ?_ | refine WC_region ?_)
  clear u0 u1
  rename_i xb
  rw [uw]
  obtain ⟨pre, hpre⟩ : ∃ pre, pre = enc (zz c0) ++ enc (zz c1) ++ encB c2 ++ enc ents.length := ⟨_, rfl⟩
  rw [← hpre]
  have hprel : pre.length ≤ 40 := by
    rw [uw] at fn
    rw [hpre, List.length_append, List.length_append, List.length_append]; omega
  refine WC_meet (fun σ => σ = ⟨[(3, .string (bstr (pre ++ ents.flatMap (encs entryF)))), (1, .pointer (some ⟨xb, 0, none⟩))], [], (xb, .cells cs 33 (0, 0)) :: L⟩) ?_ ?_
  · refine WC_block (WC_wk [(4, .int .i64 0), (3, .string (bstr pre)), (1, .pointer (some ⟨xb, 0, none⟩))] ⟨rfl, rfl, rfl, trivial⟩ ?_)
    refine WC_loop (fun m σ => ∃ (j : Nat) (acc : List UInt8), m = ents.length - j ∧ j ≤ ents.length ∧ acc = pre ++ (ents.take j).flatMap (encs entryF) ∧ σ = ⟨[(4, .int .i64 (j : Nat)), (3, .string (bstr acc)), (1, .pointer (some ⟨xb, 0, none⟩))], [], (xb, .cells cs 33 (0, 0)) :: L⟩) ents.length ⟨0, pre, by omega, by omega, by simp, rfl⟩ ?_
    rintro m σ ⟨j, acc, rfl, hj, hacc, rfl⟩
    by_cases hlt : j < ents.length
    · have d1 : decide (((j : Nat) : Int) < ((ents.length : Nat) : Int)) = true := decide_eq_true (by omega)
      obtain ⟨vs, hvs⟩ : ∃ vs, ents[j]? = some vs := ⟨_, List.getElem?_eq_getElem hlt⟩
      rcases he with he | ⟨be, eo, ie, ec, EE, ef, rfl, hRe, hat⟩
      · rw [he] at hlt; simp at hlt
      obtain ⟨hle, _⟩ := hat j vs hvs
      have hov := hb vs (List.mem_of_getElem? hvs)
      have hvl := hov.len
      have hvl' : vs.length = 10 := hvl
      have hle' : Lies ec (eo + ((j : Nat) : Int).toNat * 10) vs := hle
      have hfit : eo + ((j : Nat) : Int).toNat * 10 + 10 ≤ ec.size := by have := lies_size hle' (by omega); rwa [hvl'] at this
      have hzE := size_extract hfit
      have hlE := lies_extract hle' (n := 10) (by omega)
      have i1 : ((j : Nat) : Int) < ((ents.length : Nat) : Int) := by omega
      have i0 : 0 ≤ ((j : Nat) : Int) := by omega
      have hXe : ((xb, Obj.cells cs 33 (0, 0)) :: L)[ie + 1]? = some (be, .cells ec EE ef) := hRe
      have hal : acc.length ≤ 40 + 100 * j := by
        have h1 := encn_len (es := entryF) (vss := ents.take j) fun vs hv => hb vs (List.mem_of_mem_take hv)
        have h2 : (ents.take j).length = j := by rw [List.length_take]; omega
        rw [h2, show entryF.length = 10 from rfl] at h1
        rw [hacc, List.length_append]; omega
      have fx := encs_len hov
      rw [show entryF.length = 10 from rfl] at fx
      have hcat : acc.length + (encs entryF vs).length ≤ 4611686018427387904 := by omega
      have hw1 : IntKind.i64.wrap (((j : Nat) : Int) + 1) = ((j + 1 : Nat) : Int) := by rw [wI64 (by omega) (by omega)]; omega
      repeat (first | refine RQr ?_ | ((first | refine WL_op rfl ?_ | refine WR_late rfl rfl rfl ?_ | refine WR_opG rfl rfl ?_); (first | (refine OE ?_; try intro _) | refine OW_callP rfl (hF := Num_fn' (by with_reducible assumption) (by with_reducible assumption)) (hk := ?_) | refine OW_callP rfl (hF := Truth_fn) (hk := ?_) | refine OW_callP rfl (hF := rW_fn (by with_reducible assumption) (by with_reducible assumption)) (hk := ?_) | refine OW_callP rfl (hF := rEntry_fn hzE hov hlE) (hk := ?_)); try refine SD ?_) | refine RC ?_ | refine RU ?_ | refine WC_draw_all (id := 1) 18 (.calm 0 <| .calm 1 <| .calm 3 <| .calm 4 <| .calm 7 <| .calm 8 <| .calm 11 <| .calm 12 <| .calm 13 <| .calm 14 <| .must 2 <| .must 5 <| .calm 6 <| .must 9 <| .calm 10 <| .must 15 <| .calm 16 <| .calm 17 <| .done) mixed (by kernel_rfl) ?_ | refine WC_region ?_)
      rw [hw1]
      refine ⟨_, _, by omega, ⟨j + 1, acc ++ encs entryF vs, rfl, by omega, ?_, rfl⟩, ⟨rfl, rfl, rfl, trivial⟩, rfl, .refl _⟩
      rw [hacc, List.take_add_one, hvs, List.flatMap_append]
      simp
    · have d1 : decide (((j : Nat) : Int) < ((ents.length : Nat) : Int)) = false := decide_eq_false (by omega)
      obtain rfl : j = ents.length := by omega
      rw [List.take_length] at hacc
      subst hacc
      repeat (first | refine RQr ?_ | ((first | refine WL_op rfl ?_ | refine WR_late rfl rfl rfl ?_ | refine WR_opG rfl rfl ?_); (first | (refine OE ?_; try intro _) | refine OW_callP rfl (hF := Num_fn' (by with_reducible assumption) (by with_reducible assumption)) (hk := ?_) | refine OW_callP rfl (hF := Truth_fn) (hk := ?_) | refine OW_callP rfl (hF := rW_fn (by with_reducible assumption) (by with_reducible assumption)) (hk := ?_) | refine OW_callP rfl (hF := rEntry_fn hzE hov hlE) (hk := ?_)); try refine SD ?_) | refine RC ?_ | refine RU ?_ | refine WC_draw_all (id := 1) 18 (.calm 0 <| .calm 1 <| .calm 3 <| .calm 4 <| .calm 7 <| .calm 8 <| .calm 11 <| .calm 12 <| .calm 13 <| .calm 14 <| .must 2 <| .must 5 <| .calm 6 <| .must 9 <| .calm 10 <| .must 15 <| .calm 16 <| .calm 17 <| .done) mixed (by kernel_rfl) ?_ | refine WC_region ?_)
      exact ⟨_, rfl, ⟨rfl, rfl, trivial⟩, rfl, .refl _⟩
  rintro _ rfl
  repeat (first | refine RQr ?_ | ((first | refine WL_op rfl ?_ | refine WR_late rfl rfl rfl ?_ | refine WR_opG rfl rfl ?_); (first | (refine OE ?_; try intro _) | refine OW_callP rfl (hF := Num_fn' (by with_reducible assumption) (by with_reducible assumption)) (hk := ?_) | refine OW_callP rfl (hF := Truth_fn) (hk := ?_) | refine OW_callP rfl (hF := rW_fn (by with_reducible assumption) (by with_reducible assumption)) (hk := ?_) | refine OW_callP rfl (hF := rEntry_fn hzE hov hlE) (hk := ?_)); try refine SD ?_) | refine RC ?_ | refine RU ?_ | refine WC_draw_all (id := 1) 18 (.calm 0 <| .calm 1 <| .calm 3 <| .calm 4 <| .calm 7 <| .calm 8 <| .calm 11 <| .calm 12 <| .calm 13 <| .calm 14 <| .must 2 <| .must 5 <| .calm 6 <| .must 9 <| .calm 10 <| .must 15 <| .calm 16 <| .calm 17 <| .done) mixed (by kernel_rfl) ?_ | refine WC_region ?_)
  refine ⟨rfl, _, _, Res1 rfl (resV_tmp rfl), .cons _ (.refl _), ?_, rfl⟩
  rw [hpre]
  simp [encChunk, encl, encs, Fk.enc]
set_option maxHeartbeats 4000000 in
theorem rMsg_fn {cs : Array Value} {L : List (Nat × Obj)} {a : Option Addr} {cap : Nat} {a' : Option Addr} {cap' : Nat} {m : MV} (hz : cs.size = 24) (hm : m.Ok) (hn : m.bins.length ≤ 1000000) (hn' : m.ents.length ≤ 1000000) (hl : Lies cs 0 (m.cells a cap a' cap')) (he : Elems L a 1 m.bins) (he' : Elems L a' 10 m.ents) :
    Fn Tryz.prog 12 [.agg cs] L (fun r L' => r = .string (bstr m.enc) ∧ L' = L) := by
  obtain ⟨g0, g1, g2, g3, g4, g5, g6⟩ := MV.cells_at hm hl
  simp only [Nat.zero_add] at g0 g1 g2 g3 g4 g5 g6
  obtain ⟨a0, b0⟩ := hm.kind
  obtain ⟨a1, b1⟩ := hm.ver
  obtain ⟨a2, b2⟩ := hm.time
  obtain ⟨a3, b3⟩ := hm.num
  have f0 := enc_len (zz_lt a0 b0)
  have f1 := enc_len (zz_lt a1 b1)
  have f2 := enc_len (zz_lt a2 b2)
  have f3 := enc_len (zz_lt a3 b3)
  have l1 := hm.rc.len
  have l2 := hm.ch.len
  have l3 := hm.ct.len
  have l4 := hm.kh.len
  simp only [List.length_cons, List.length_nil] at l1 l2 l3 l4
  have s2 : Lies (cs.extract 2 (2 + 6)) 0 m.rc := lies_extract g2 (by omega)
  have s5 : Lies (cs.extract 10 (10 + 10)) 0 (m.ch ++ (.slice a m.bins.length cap :: m.ct)) := lies_extract g5 (by simp only [List.length_append, List.length_cons]; omega)
  have s6 : Lies (cs.extract 20 (20 + 4)) 0 (m.kh ++ [.slice a' m.ents.length cap']) := lies_extract g6 (by simp only [List.length_append, List.length_cons, List.length_nil]; omega)
  have z5 : (cs.extract 10 (10 + 10)).size = 10 := size_extract (by omega)
  have hrc := hm.rc
  have hch := hm.ch
  have hct := hm.ct
  have hkh := hm.kh
  have hbi := hm.bins
  have hen := hm.ents
  have e2 := encs_len hrc
  simp only [List.length_cons, List.length_nil] at e2
  have e5 : (encCmd m.ch m.bins m.ct).length ≤ 200 + 10 * m.bins.length := by
    have h1 := encs_len hch
    have h2 := encl_len hbi hn
    have h3 := encs_len hct
    rw [show binF.length = 1 from rfl] at h2
    simp only [List.length_cons, List.length_nil] at h1 h3
    unfold encCmd
    rw [List.length_append, List.length_append]; omega
  have e6 : (encChunk m.kh m.ents).length ≤ 200 + 100 * m.ents.length := by
    have h1 := encs_len hkh
    have h2 := encl_len hen hn'
    rw [show entryF.length = 10 from rfl] at h2
    simp only [List.length_cons, List.length_nil] at h1
    unfold encChunk
    rw [List.length_append]; omega
  have he1 := fun q : Nat × Obj => he.mem (R' := q :: L) fun q' hq => List.mem_cons_of_mem _ hq
  have he2 := fun q : Nat × Obj => he'.mem (R' := q :: L) fun q' hq => List.mem_cons_of_mem _ hq
  refine Fn_enter Tryz.func12 rfl Tryz.ntmps12 rfl fun g => ?_
  by_cases hk : m.kind = 0
  · have hkk := hk
    have d0 : (m.kind == 0) = true := by simpa using hk
    repeat (first | refine RQr ?_ | ((first | refine WL_op rfl ?_ | refine WR_late rfl rfl rfl ?_ | refine WR_opG rfl rfl ?_); (first | (refine OE ?_; try intro _) | refine OW_callP rfl (hF := Int_fn (by with_reducible assumption) (by with_reducible assumption)) (hk := ?_) | refine OW_callP rfl (hF := rW_fn (by with_reducible assumption) (by with_reducible assumption)) (hk := ?_) | refine OW_callP rfl (hF := rRec_fn hrc s2) (hk := ?_) | refine OW_callP rfl (hF := rCmd_fn z5 hn hch hct hbi s5 (he1 _)) (hk := ?_) | refine OW_callP rfl (hF := rChunk_fn hn' hkh hen s6 (he2 _)) (hk := ?_)); try refine SD ?_) | refine RC ?_ | refine RU ?_ | refine WC_draw_all (id := 1) 8 (.calm 0 <| .calm 1 <| .calm 3 <| .calm 4 <| .must 2 <| .must 5 <| .calm 6 <| .calm 7 <| .done) mixed (by kernel_rfl) ?_ | refine WC_region ?_)
    refine ⟨rfl, _, _, Res1 rfl (resV_tmp rfl), .cons _ (.refl _), ?_, rfl⟩
    unfold MV.enc MV.body
    rw [if_pos hk, List.append_assoc]
  by_cases hk : m.kind = 1
  · have hkk := hk
    have d0 : (m.kind == 0) = false := by simpa using (show ¬ m.kind = 0 by omega)
    have d1 : (m.kind == 1) = true := by simpa using hk
    repeat (first | refine RQr ?_ | ((first | refine WL_op rfl ?_ | refine WR_late rfl rfl rfl ?_ | refine WR_opG rfl rfl ?_); (first | (refine OE ?_; try intro _) | refine OW_callP rfl (hF := Int_fn (by with_reducible assumption) (by with_reducible assumption)) (hk := ?_) | refine OW_callP rfl (hF := rW_fn (by with_reducible assumption) (by with_reducible assumption)) (hk := ?_) | refine OW_callP rfl (hF := rRec_fn hrc s2) (hk := ?_) | refine OW_callP rfl (hF := rCmd_fn z5 hn hch hct hbi s5 (he1 _)) (hk := ?_) | refine OW_callP rfl (hF := rChunk_fn hn' hkh hen s6 (he2 _)) (hk := ?_)); try refine SD ?_) | refine RC ?_ | refine RU ?_ | refine WC_draw_all (id := 1) 8 (.calm 0 <| .calm 1 <| .calm 3 <| .calm 4 <| .must 2 <| .must 5 <| .calm 6 <| .calm 7 <| .done) mixed (by kernel_rfl) ?_ | refine WC_region ?_)
    refine ⟨rfl, _, _, Res1 rfl (resV_tmp rfl), .cons _ (.refl _), ?_, rfl⟩
    unfold MV.enc MV.body
    rw [if_neg (by omega), if_pos hk, List.append_assoc]
  by_cases hk : m.kind = 2
  · have hkk := hk
    have d0 : (m.kind == 0) = false := by simpa using (show ¬ m.kind = 0 by omega)
    have d1 : (m.kind == 1) = false := by simpa using (show ¬ m.kind = 1 by omega)
    have d2 : (m.kind == 2) = true := by simpa using hk
    repeat (first | refine RQr ?_ | ((first | refine WL_op rfl ?_ | refine WR_late rfl rfl rfl ?_ | refine WR_opG rfl rfl ?_); (first | (refine OE ?_; try intro _) | refine OW_callP rfl (hF := Int_fn (by with_reducible assumption) (by with_reducible assumption)) (hk := ?_) | refine OW_callP rfl (hF := rW_fn (by with_reducible assumption) (by with_reducible assumption)) (hk := ?_) | refine OW_callP rfl (hF := rRec_fn hrc s2) (hk := ?_) | refine OW_callP rfl (hF := rCmd_fn z5 hn hch hct hbi s5 (he1 _)) (hk := ?_) | refine OW_callP rfl (hF := rChunk_fn hn' hkh hen s6 (he2 _)) (hk := ?_)); try refine SD ?_) | refine RC ?_ | refine RU ?_ | refine WC_draw_all (id := 1) 8 (.calm 0 <| .calm 1 <| .calm 3 <| .calm 4 <| .must 2 <| .must 5 <| .calm 6 <| .calm 7 <| .done) mixed (by kernel_rfl) ?_ | refine WC_region ?_)
    refine ⟨rfl, _, _, Res1 rfl (resV_tmp rfl), .cons _ (.refl _), ?_, rfl⟩
    unfold MV.enc MV.body
    rw [if_neg (by omega), if_neg (by omega), if_pos hk, List.append_assoc]
  by_cases hk : m.kind = 3
  · have hkk := hk
    have d0 : (m.kind == 0) = false := by simpa using (show ¬ m.kind = 0 by omega)
    have d1 : (m.kind == 1) = false := by simpa using (show ¬ m.kind = 1 by omega)
    have d2 : (m.kind == 2) = false := by simpa using (show ¬ m.kind = 2 by omega)
    have d3 : (m.kind == 3) = true := by simpa using hk
    repeat (first | refine RQr ?_ | ((first | refine WL_op rfl ?_ | refine WR_late rfl rfl rfl ?_ | refine WR_opG rfl rfl ?_); (first | (refine OE ?_; try intro _) | refine OW_callP rfl (hF := Int_fn (by with_reducible assumption) (by with_reducible assumption)) (hk := ?_) | refine OW_callP rfl (hF := rW_fn (by with_reducible assumption) (by with_reducible assumption)) (hk := ?_) | refine OW_callP rfl (hF := rRec_fn hrc s2) (hk := ?_) | refine OW_callP rfl (hF := rCmd_fn z5 hn hch hct hbi s5 (he1 _)) (hk := ?_) | refine OW_callP rfl (hF := rChunk_fn hn' hkh hen s6 (he2 _)) (hk := ?_)); try refine SD ?_) | refine RC ?_ | refine RU ?_ | refine WC_draw_all (id := 1) 8 (.calm 0 <| .calm 1 <| .calm 3 <| .calm 4 <| .must 2 <| .must 5 <| .calm 6 <| .calm 7 <| .done) mixed (by kernel_rfl) ?_ | refine WC_region ?_)
    refine ⟨rfl, _, _, Res1 rfl (resV_tmp rfl), .cons _ (.refl _), ?_, rfl⟩
    unfold MV.enc MV.body
    rw [if_neg (by omega), if_neg (by omega), if_neg (by omega), if_pos hk, List.append_assoc]
  by_cases hk : m.kind = 4
  · have hkk := hk
    have d0 : (m.kind == 0) = false := by simpa using (show ¬ m.kind = 0 by omega)
    have d1 : (m.kind == 1) = false := by simpa using (show ¬ m.kind = 1 by omega)
    have d2 : (m.kind == 2) = false := by simpa using (show ¬ m.kind = 2 by omega)
    have d3 : (m.kind == 3) = false := by simpa using (show ¬ m.kind = 3 by omega)
    have d4 : (m.kind == 4) = true := by simpa using hk
    repeat (first | refine RQr ?_ | ((first | refine WL_op rfl ?_ | refine WR_late rfl rfl rfl ?_ | refine WR_opG rfl rfl ?_); (first | (refine OE ?_; try intro _) | refine OW_callP rfl (hF := Int_fn (by with_reducible assumption) (by with_reducible assumption)) (hk := ?_) | refine OW_callP rfl (hF := rW_fn (by with_reducible assumption) (by with_reducible assumption)) (hk := ?_) | refine OW_callP rfl (hF := rRec_fn hrc s2) (hk := ?_) | refine OW_callP rfl (hF := rCmd_fn z5 hn hch hct hbi s5 (he1 _)) (hk := ?_) | refine OW_callP rfl (hF := rChunk_fn hn' hkh hen s6 (he2 _)) (hk := ?_)); try refine SD ?_) | refine RC ?_ | refine RU ?_ | refine WC_draw_all (id := 1) 8 (.calm 0 <| .calm 1 <| .calm 3 <| .calm 4 <| .must 2 <| .must 5 <| .calm 6 <| .calm 7 <| .done) mixed (by kernel_rfl) ?_ | refine WC_region ?_)
    refine ⟨rfl, _, _, Res1 rfl (resV_tmp rfl), .cons _ (.refl _), ?_, rfl⟩
    unfold MV.enc MV.body
    rw [if_neg (by omega), if_neg (by omega), if_neg (by omega), if_neg (by omega), if_pos hk, List.append_assoc]
  have d0 : (m.kind == 0) = false := by simpa using (show ¬ m.kind = 0 by omega)
  have d1 : (m.kind == 1) = false := by simpa using (show ¬ m.kind = 1 by omega)
  have d2 : (m.kind == 2) = false := by simpa using (show ¬ m.kind = 2 by omega)
  have d3 : (m.kind == 3) = false := by simpa using (show ¬ m.kind = 3 by omega)
  have d4 : (m.kind == 4) = false := by simpa using (show ¬ m.kind = 4 by omega)
  repeat (first | refine RQr ?_ | ((first | refine WL_op rfl ?_ | refine WR_late rfl rfl rfl ?_ | refine WR_opG rfl rfl ?_); (first | (refine OE ?_; try intro _) | refine OW_callP rfl (hF := Int_fn (by with_reducible assumption) (by with_reducible assumption)) (hk := ?_) | refine OW_callP rfl (hF := rW_fn (by with_reducible assumption) (by with_reducible assumption)) (hk := ?_) | refine OW_callP rfl (hF := rRec_fn hrc s2) (hk := ?_) | refine OW_callP rfl (hF := rCmd_fn z5 hn hch hct hbi s5 (he1 _)) (hk := ?_) | refine OW_callP rfl (hF := rChunk_fn hn' hkh hen s6 (he2 _)) (hk := ?_)); try refine SD ?_) | refine RC ?_ | refine RU ?_ | refine WC_draw_all (id := 1) 8 (.calm 0 <| .calm 1 <| .calm 3 <| .calm 4 <| .must 2 <| .must 5 <| .calm 6 <| .calm 7 <| .done) mixed (by kernel_rfl) ?_ | refine WC_region ?_)
  refine ⟨rfl, _, _, Res1 rfl (resV_tmp rfl), .cons _ (.refl _), ?_, rfl⟩
  unfold MV.enc MV.body
  rw [if_neg (by omega), if_neg (by omega), if_neg (by omega), if_neg (by omega), if_neg (by omega), List.append_nil]
end Go.Proofs.YtakedlockchpcaaGreatDoor
