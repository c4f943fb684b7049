/-
  A part of what the last of these texts needs; by itself it proves no statement.
-/
import Derived.Test.YtgimodceldoniaaGreatDoorKN6
namespace Go.Proofs.YtgimodceldoniaaGreatDoor
open Go.RowKit
noncomputable section
attribute [local irreducible] T.put T.set
def handle : Value := .iface 127 (.agg #[.pointer (some ⟨1, 46, none⟩)])
def hOk (Hp : H) : Bool := match Hp.h.get 0 with
  | some (.glob b0 v) => match v with
    | .iface r (.agg a) => match a.toList with
      | [.pointer (some ⟨B, o, none⟩)] => Nat.beq b0 0 && Nat.beq r 127 && Nat.beq B 1 && Nat.beq o 46
      | _ => false
    | _ => false
  | _ => false
theorem hOk_ok {Hp : H} (h : hOk Hp = true) : Hp.h.get 0 = some (.glob 0 handle) := by
  unfold hOk at h
  split at h
  · rename_i b0 v hg
    split at h
    · rename_i r a
      split at h
      · rename_i B o ha
        simp only [Bool.and_eq_true] at h
        obtain ⟨⟨⟨h1, h2⟩, h3⟩, h4⟩ := h
        rw [hg, Nat.eq_of_beq_eq_true h1, Nat.eq_of_beq_eq_true h2]
        have : a = #[.pointer (some ⟨B, o, none⟩)] := by apply Array.ext'; simpa using ha
        rw [this, Nat.eq_of_beq_eq_true h3, Nat.eq_of_beq_eq_true h4]
        rfl
      · cases h
    · cases h
  · cases h
def asX (vs : List V) (Hp : H) : Option (V × H) := match vs with
  | [.ifc t (.ptr k off), .ifc t2 (.ptr k2 off2)] => match Nat.beq t 72, Nat.beq t2 74, hOk Hp, Hp.h.get k2 with
    | true, true, true, some (.cells c E) => match c.get off2 with
      | some _ => some (.bool true, Hp.upd k2 (.cells (c.set off2 (.ptr k off)) E))
      | none => none
    | _, _, _, _ => none
  | _ => none
def isX (vs : List V) (Hp : H) : Option (V × H) := match vs with
  | [.ifc t (.ptr k off), .ifc t2 (.int .i64 m)] => match Nat.beq t 72, Nat.beq t2 40, rdX (Hp.h.get k) with
    | true, true, some c => match c.get off with
      | some (.int .i64 n) => some (.bool (n == m), Hp)
      | _ => none
    | _, _, _ => none
  | _ => none
def doorPr : PrimF := fun f vs Hp => match Nat.beq f 24 with
  | true => asX vs Hp
  | false => match Nat.beq f 25 with
    | true => isX vs Hp
    | false => none
theorem FPost_self {bs : Bs} {Hp : H} {M F : List (Nat × Obj)} {v : V} {v' : Value} (hm : HCov bs Hp M) (hv : RV bs v v') : FPost bs Hp M F v Hp v' (M ++ F) :=
  ⟨[], M, rfl, by simpa using hv, by simpa using hm, rfl, fun _ h => h, fun W B _ h => by simpa using h⟩
theorem setCell_row {W : World} {b off : Nat} {v : Value} {cs : Array Value} {E : TypeId} {fr : Nat × Nat} (h : W.heap[b]? = some (.cells cs E fr)) : W.setCell ⟨b, off, none⟩ v = W.setRow b (cs.setIfInBounds off v) := by
  unfold World.setCell World.setRow
  congr 1
  apply Array.ext_getElem?
  intro i
  rw [Array.getElem?_modify, Array.getElem?_modify]
  by_cases e : b = i
  · subst e; rw [if_pos rfl, if_pos rfl, h]; simp
  · rw [if_neg e, if_neg e]
theorem as_ok {Hp : H} {vs : List V} {v : V} {H2 : H} (h : asX vs Hp = some (v, H2)) : Ext Hp H2 ∧ ∀ bs M F vs', HCov bs Hp M → RVs bs vs vs' → Fn Tryz.prog 24 vs' (M ++ F) (FPost bs Hp M F v H2) := by
  unfold asX at h
  split at h
  · rename_i t k off t2 k2 off2
    split at h
    · rename_i c E g1 g2 g3 g4
      split at h
      · rename_i old g5
        cases h
        refine ⟨.upd _ _ _, fun bs M F vs' hm hvs g w hmem => ?_⟩
        obtain rfl := Nat.eq_of_beq_eq_true g1
        obtain rfl := Nat.eq_of_beq_eq_true g2
        cases hvs with
        | cons h1 hvs => cases hvs with
          | cons h2 hvs => cases hvs with
            | nil =>
              cases h1 with
              | ifc _ h1 => cases h2 with
                | ifc _ h2 =>
                  obtain ⟨b, base, av, rfl, hk⟩ := h1.ptr_inv
                  obtain ⟨b2, base2, av2, rfl, hk2⟩ := h2.ptr_inv
                  obtain ⟨b', base', av', i, o', a1, a2, a3⟩ := hm.at_ k2 _ g4
                  rw [hk2] at a1; cases a1
                  have a4 := a3
                  obtain ⟨cs, rfl, a5, a6⟩ := a4
                  obtain ⟨a7, old', a8, _⟩ := a6 off2 _ g5
                  obtain ⟨b0, base0, av0, i0, o0, c1, c2, rfl, cs0, E0, fr0, rfl, c3⟩ := hm.at_ 0 _ (hOk_ok g3)
                  have hi2 : (M ++ F)[i]? = some (b2, .cells cs E (0, 0)) := by rw [List.getElem?_append_left (List.getElem?_eq_some_iff.1 a2).1]; exact a2
                  have hi0 : (M ++ F)[i0]? = some (0, .cells cs0 E0 fr0) := by rw [List.getElem?_append_left (List.getElem?_eq_some_iff.1 c2).1]; exact c2
                  have hw2 := hmem.at_ hi2
                  have hw0 := hmem.at_ hi0
                  have hg : w.cell? ⟨0, 0, none⟩ = some handle := by rw [cell_of_row w _ 0 cs0 E0 fr0 hw0]; exact c3
                  have ht : w.cell? ⟨b2, base2 + off2, none⟩ = some old' := by rw [cell_of_row w b2 (base2 + off2) cs E (0, 0) hw2]; exact a8
                  have hf : w.frozen? ⟨b2, base2 + off2, none⟩ = false := by
                    simp [World.frozen?, hw2]
                  have hlt : b2 < w.heap.size := hmem.lt _ (List.mem_of_getElem? hi2)
                  refine (as_hit ⟨b, base + off, none⟩ ⟨b2, base2 + off2, none⟩ old' w hg ht hf).mono fun e w' ⟨he, hw'⟩ => ?_
                  have hm4 := (((hmem.alloc (.cells #[.pointer (some ⟨b2, base2 + off2, none⟩)] 74)).alloc (.cells #[.pointer (some ⟨1, 74, none⟩), .pointer (some ⟨w.heap.size, 0, none⟩), .int .u64 150] 94)).alloc (.cells #[.pointer (some ⟨1, 74, none⟩), .pointer (some ⟨w.heap.size, 0, none⟩), .int .u64 150] 94)).alloc (.cells #[.pointer (some ⟨b, base + off, none⟩)] 72)
                  have hm5 : Mem g (M ++ F) _ := hm4.sublist ((((List.sublist_cons_self _ _).trans (List.sublist_cons_self _ _)).trans (List.sublist_cons_self _ _)).trans (List.sublist_cons_self _ _))
                  have hset := hm5.setRow hi2 (cs.setIfInBounds (base2 + off2) (.pointer (some ⟨b, base + off, none⟩)))
                  have hL : (M ++ F).set i (b2, .cells (cs.setIfInBounds (base2 + off2) (.pointer (some ⟨b, base + off, none⟩))) E (0, 0)) = M.set i (b2, .cells (cs.setIfInBounds (base2 + off2) (.pointer (some ⟨b, base + off, none⟩))) E (0, 0)) ++ F := List.set_append_left _ _ (List.getElem?_eq_some_iff.1 a2).1
                  have hRO : RO bs b2 base2 av2 (.cells (c.set off2 (.ptr k off)) E) (.cells (cs.setIfInBounds (base2 + off2) (.pointer (some ⟨b, base + off, none⟩))) E (0, 0)) := by
                    refine ⟨_, rfl, by rw [Array.size_setIfInBounds]; exact a5, fun j u hj => ?_⟩
                    rcases T.get_set hj with ⟨rfl, rfl⟩ | ⟨hne, hj⟩
                    · refine ⟨a7, .pointer (some ⟨b, base + off, none⟩), ?_, .ptr hk⟩
                      have : base2 + j < cs.size := by omega
                      simp [this]
                    · obtain ⟨q1, q2, q3, q4⟩ := a6 j u hj
                      refine ⟨q1, q2, ?_, q4⟩
                      rw [Array.getElem?_setIfInBounds_ne (by omega)]; exact q3
                  have hnod : ((M ++ F).map Prod.fst).Nodup := hmem.nodup
                  have hpost := Post_upd (bs := bs) (s := noS) (Hp := ⟨Hp.h, Hp.n, Hp.log, []⟩) (M := M) (F := F) (σ := ⟨[], [], M ++ F⟩) (s2 := noS) (k := k2) (ob := .cells c E) (σ' := ⟨[], [], (M ++ F).set i (b2, .cells (cs.setIfInBounds (base2 + off2) (.pointer (some ⟨b, base + off, none⟩))) E (0, 0))⟩) ⟨covS_none, rfl, ⟨hm.n, hm.at_, hm.inj⟩, rfl⟩ hnod g4 hk2 a2 hRO covS_none rfl rfl
                  obtain ⟨r, M', f1, f2, f3, f4, f5, f6⟩ := hpost
                  refine ⟨.bool true, _, he, ?_, r, M', f2, .bool true, ⟨f4.n, f4.at_, f4.inj⟩, rfl, f5, f6⟩
                  rw [hw']
                  rw [setCell_row (hm5.at_ hi2)]
                  exact hset
      · cases h
    · cases h
  · cases h
theorem is_ok {Hp : H} {vs : List V} {v : V} {H2 : H} (h : isX vs Hp = some (v, H2)) : Ext Hp H2 ∧ ∀ bs M F vs', HCov bs Hp M → RVs bs vs vs' → Fn Tryz.prog 25 vs' (M ++ F) (FPost bs Hp M F v H2) := by
  unfold isX at h
  split at h
  · rename_i t k off t2 m
    split at h
    · rename_i c g1 g2 g3
      split at h
      · rename_i n g5
        cases h
        refine ⟨.refl _, fun bs M F vs' hm hvs g w hmem => ?_⟩
        obtain rfl := Nat.eq_of_beq_eq_true g1
        obtain rfl := Nat.eq_of_beq_eq_true g2
        cases hvs with
        | cons h1 hvs => cases hvs with
          | cons h2 hvs => cases hvs with
            | nil =>
              cases h1 with
              | ifc _ h1 => cases h2 with
                | ifc _ h2 =>
                  cases h2
                  obtain ⟨b, base, av, rfl, hk⟩ := h1.ptr_inv
                  obtain ⟨ob, hob, hrd⟩ := rdX_ok (bs := bs) (b := b) (base := base) (av := av) g3
                  obtain ⟨b', base', av', i, o', a1, a2, a3⟩ := hm.at_ k _ hob
                  rw [hk] at a1; cases a1
                  obtain ⟨cs, E, fr, rfl, a5, a6⟩ := hrd a3
                  obtain ⟨a7, n', a8, a9⟩ := a6 off _ g5
                  cases a9
                  have hi2 : (M ++ F)[i]? = some (b, .cells cs E fr) := by rw [List.getElem?_append_left (List.getElem?_eq_some_iff.1 a2).1]; exact a2
                  have ht : w.cell? ⟨b, base + off, none⟩ = some (.int .i64 n) := by rw [cell_of_row w b (base + off) cs E fr (hmem.at_ hi2)]; exact a8
                  refine (Is_hit b (base + off) n m w ht).mono fun e w' ⟨he, hw'⟩ => ?_
                  subst hw'
                  exact ⟨_, _, he, hmem, FPost_self hm (.bool _)⟩
      · cases h
    · cases h
  · cases h
theorem doorPr_ok : PrimOk Tryz.prog doorPr := by
  refine ⟨fun f vs Hp v H2 h => ?_, fun f vs Hp v H2 h => ?_, fun f vs Hp v H2 h bs M F vs' hm hvs => ?_⟩
  · unfold doorPr at h
    split at h
    · exact (as_ok h).1
    · split at h
      · exact (is_ok h).1
      · cases h
  · unfold doorPr at h
    split at h
    · rename_i e; rw [Nat.eq_of_beq_eq_true e]; infer_instance
    · split at h
      · rename_i e; rw [Nat.eq_of_beq_eq_true e]; infer_instance
      · cases h
  · unfold doorPr at h
    split at h
    · rename_i e; rw [Nat.eq_of_beq_eq_true e]; exact (as_ok h).2 bs M F vs' hm hvs
    · split at h
      · rename_i e; rw [Nat.eq_of_beq_eq_true e]; exact (is_ok h).2 bs M F vs' hm hvs
      · cases h
def doorH : H := ⟨(T.e).set 0 (.glob 0 handle), 1, [], []⟩
theorem doorH_cov {cs : Array Value} {E : TypeId} {fr : Nat × Nat} (h : cs[0]? = some handle) : HCov [(0, 0, 0)] doorH [(0, .cells cs E fr)] := by
  have key : ∀ {k : Nat} {o : O}, doorH.h.get k = some o → k = 0 ∧ o = .glob 0 handle := fun {k o} hk => by
    rcases T.get_set hk with ⟨h1, h2⟩ | ⟨_, h2⟩
    · exact ⟨h1, h2.symm⟩
    · cases h2
  refine ⟨rfl, fun k o hk => ?_, fun j k o o' b x y x' y' hj hk _ _ => ?_⟩
  · obtain ⟨rfl, rfl⟩ := key hk
    exact ⟨_, 0, 0, 0, _, rfl, rfl, rfl, cs, E, fr, rfl, h⟩
  · rw [(key hj).1, (key hk).1]
theorem doorH_zero : ∀ k o, doorH.h.get k = some o → k = 0 := fun k o hk => by
  rcases T.get_set hk with ⟨h1, _⟩ | ⟨_, h2⟩
  · exact h1
  · cases h2
end
end Go.Proofs.YtgimodceldoniaaGreatDoor
namespace Go.Proofs.YtgimodceldoniaaGreatDoor
open Go.RowKit
def HandleIn (L : List (Nat × Obj)) : Prop := ∃ cs E fr, (0, Obj.cells cs E fr) ∈ L ∧ cs[0]? = some handle
theorem HandleIn.cons {L : List (Nat × Obj)} (p : Nat × Obj) (h : HandleIn L) : HandleIn (p :: L) := by
  obtain ⟨cs, E, fr, h1, h2⟩ := h
  exact ⟨cs, E, fr, List.mem_cons_of_mem _ h1, h2⟩
end Go.Proofs.YtgimodceldoniaaGreatDoor
namespace Go.Proofs.YtgimodceldoniaaGreatDoor
open Go.RowKit
attribute [local irreducible] Fn WC WL WR OW Qt YieldFn QW FnP FnD
theorem fault_und : Tryz.prog.underlying 51 = some (.struct (Tryz.prog.fieldsOf 51)) := by kernel_rfl
theorem fault_held : Tryz.prog.stoodInHeld 51 = false := by kernel_rfl
theorem fault_guard : Tryz.prog.eqGuardType Tryz.prog.depth 51 = false := by kernel_rfl
theorem fault_self (a b : Int) (w : World) : (Op.equalIn 10000 51 (.agg #[.int .i64 a, .int .i64 b]) (.agg #[.int .i64 a, .int .i64 b])).run Tryz.prog w = .ok true w := by
  rw [run_equalIn_agg w 9999 _ _ _ fault_und fault_held]
  have e1 := fun d => run_equalIn_int (P := Tryz.prog) w d 40 .i64 .i64 a a Tryz.underlying40
  have e2 := fun d => run_equalIn_int (P := Tryz.prog) w d 3 .i64 .i64 b b Tryz.underlying3
  simp only [beq_self_eq_true] at e1 e2
  have hf : (Tryz.prog.fieldsOf 51).toList.map (fun f => (f.type, f.offset, f.name == "_")) = [(40, 0, false), (3, 1, false)] := by kernel_rfl
  generalize (Tryz.prog.fieldsOf 51).toList = fs at hf
  obtain ⟨f0, f1, rfl⟩ : ∃ f0 f1, fs = [f0, f1] := by
    have h := congrArg List.length hf
    rw [List.length_map] at h
    match fs, h with
    | [f0, f1], _ => exact ⟨f0, f1, rfl⟩
  simp only [List.map_cons, List.map_nil, List.cons.injEq, Prod.mk.injEq, and_true] at hf
  obtain ⟨⟨t0, o0, n0⟩, t1, o1, n1⟩ := hf
  have a0 : ∀ w, (isAgg 40).run Tryz.prog w = .ok false w := Tryz.isAgg40
  have a1 : ∀ w, (isAgg 3).run Tryz.prog w = .ok false w := Tryz.isAgg3
  simp [Op.eqFields, part, t0, o0, t1, o1, a0, a1, e1, e2]
theorem Qt_eql_struct {g : World} {N n : Nat} {r : Option Nat} {s : List (Nat × Value)} {L : List (Nat × Obj)} {o : Oper} {x y : Operand} {t' : TypeId} {a b : Int} (ho : o.op = .binOp .eql 51 x y t') (hx : ev s x = some (.agg #[.int .i64 a, .int .i64 b]) := by exact rfl) (hy : ev s y = some (.agg #[.int .i64 a, .int .i64 b]) := by exact rfl) : Qt ⟨Tryz.prog, g, N, n, r⟩ s L o (.bool true) :=
  Qt_eql_struct' ho hx hy fault_guard (fault_self a b)
theorem as_fn {L : List (Nat × Obj)} (hH : HandleIn L) {t : Nat} {e : Addr} {old : Value} {E : TypeId} {i : Nat} (hi : L[i]? = some (t, .cells #[old] E (0, 0))) :
    Fn Tryz.prog 24 [.iface 72 (.pointer (some e)), .iface 74 (.pointer (some ⟨t, 0, none⟩))] L (fun v L' => v = .bool true ∧ L' = L.set i (t, .cells #[.pointer (some e)] E (0, 0))) := by
  unfold Fn
  intro g w hm
  obtain ⟨cs, E0, fr, h1, h2⟩ := hH
  have hw0 := hm.has _ h1
  have hg : w.cell? ⟨0, 0, none⟩ = some handle := by rw [cell_of_row w _ 0 cs E0 fr hw0]; exact h2
  have ht : w.cell? ⟨t, 0, none⟩ = some old := by rw [cell_of_row w t 0 #[old] E (0, 0) (hm.at_ hi)]; rfl
  have hf : w.frozen? ⟨t, 0, none⟩ = false := by simp [World.frozen?, hm.at_ hi]
  refine (as_hit e ⟨t, 0, none⟩ old w hg ht hf).mono fun ev' w' ⟨he, hw'⟩ => ?_
  have hm4 := (((hm.alloc (.cells #[.pointer (some ⟨t, 0, none⟩)] 74)).alloc (.cells #[.pointer (some ⟨1, 74, none⟩), .pointer (some ⟨w.heap.size, 0, none⟩), .int .u64 150] 94)).alloc (.cells #[.pointer (some ⟨1, 74, none⟩), .pointer (some ⟨w.heap.size, 0, none⟩), .int .u64 150] 94)).alloc (.cells #[.pointer (some e)] 72)
  have hm5 : Mem g L _ := hm4.sublist ((((List.sublist_cons_self _ _).trans (List.sublist_cons_self _ _)).trans (List.sublist_cons_self _ _)).trans (List.sublist_cons_self _ _))
  have hset := hm5.setRow hi (#[old].setIfInBounds 0 (.pointer (some e)))
  refine ⟨.bool true, _, he, ?_, rfl, rfl⟩
  rw [hw', setCell_row (hm5.at_ hi)]
  exact hset
theorem Is_fn {L : List (Nat × Obj)} {p : Nat} {n m : Int} {x : Value} {E : TypeId} {fr : Nat × Nat} {i : Nat} (hi : L[i]? = some (p, .cells #[.int .i64 n, x] E fr)) :
    Fn Tryz.prog 25 [.iface 72 (.pointer (some ⟨p, 0, none⟩)), .iface 40 (.int .i64 m)] L (fun v L' => v = .bool (n == m) ∧ L' = L) := by
  unfold Fn
  intro g w hm
  have ht : w.cell? ⟨p, 0, none⟩ = some (.int .i64 n) := by rw [cell_of_row w p 0 _ E fr (hm.at_ hi)]; rfl
  refine (Is_hit p 0 n m w ht).mono fun e w' ⟨he, hw'⟩ => ?_
  subst hw'
  exact ⟨_, _, he, hm, rfl, rfl⟩
theorem bNext_le {l : List UInt8} {a : Nat} (h : bCode l a = 0) : a + 1 ≤ l.length := by
  unfold bCode at h
  split at h
  · omega
  · cases h
theorem tNext_le {l : List UInt8} {a : Nat} (h : tCode l a = 0) : a + 1 ≤ l.length := by
  unfold tCode at h
  split at h
  · omega
  · cases h
end Go.Proofs.YtgimodceldoniaaGreatDoor
namespace Go.Proofs.YtgimodceldoniaaGreatDoor
open Go.RowKit
theorem ofNat_hi {d : Nat} (h : d < 128) : (UInt8.ofNat (d + 128)).toNat = d + 128 := by simp only [UInt8.toNat_ofNat']; omega
def vexact (xs : List UInt8) : Nat := xs.foldl (fun n u => n * 128 + u.toNat % 128) 0
theorem vexact_snoc (xs : List UInt8) (u : UInt8) : vexact (xs ++ [u]) = vexact xs * 128 + u.toNat % 128 := by unfold vexact; rw [List.foldl_append]; rfl
theorem list_rec {α : Type} {P : List α → Prop} (h0 : P []) (h1 : ∀ xs u, P xs → P (xs ++ [u])) (xs : List α) : P xs := by
  have : ∀ ys : List α, P ys.reverse := by
    intro ys
    induction ys with
    | nil => exact h0
    | cons y ys ih => rw [List.reverse_cons]; exact h1 _ _ ih
  have h := this xs.reverse
  rwa [List.reverse_reverse] at h
theorem val_vexact (xs : List UInt8) : val xs = vexact xs % 18446744073709551616 := by
  refine list_rec (P := fun xs => val xs = vexact xs % 18446744073709551616) rfl (fun xs u h => ?_) xs
  rw [val_snoc, vexact_snoc, h]; omega
theorem vexact_lt (xs : List UInt8) : vexact xs < 128 ^ xs.length := by
  refine list_rec (P := fun xs => vexact xs < 128 ^ xs.length) (by decide) (fun xs u h => ?_) xs
  rw [vexact_snoc, List.length_append, List.length_singleton, Nat.pow_succ]
  have := Nat.mod_lt u.toNat (show 0 < 128 by decide)
  omega
theorem vexact_cons (u : UInt8) (xs : List UInt8) : vexact (u :: xs) = u.toNat % 128 * 128 ^ xs.length + vexact xs := by
  refine list_rec (P := fun xs => vexact (u :: xs) = u.toNat % 128 * 128 ^ xs.length + vexact xs) (by simp [vexact]) (fun xs w h => ?_) xs
  rw [← List.cons_append, vexact_snoc, h, vexact_snoc, List.length_append, List.length_singleton, Nat.pow_succ, Nat.add_mul, Nat.mul_assoc]
  omega
theorem encH_back : ∀ (ys : List UInt8), (∀ u ∈ ys, 128 ≤ u.toNat) → ys.head? ≠ some 128 → encH (vexact ys) = ys := by
  intro ys
  refine list_rec (P := fun ys => (∀ u ∈ ys, 128 ≤ u.toNat) → ys.head? ≠ some 128 → encH (vexact ys) = ys) (fun _ _ => by unfold vexact; rw [List.foldl_nil, encH_zero]) (fun zs w ih hge hh => ?_) ys
  have hw := hge w (by simp)
  have hw2 := w.toNat_lt
  have hback : UInt8.ofNat (w.toNat % 128 + 128) = w := UInt8.toNat_inj.1 (by rw [ofNat_hi (by omega)]; omega)
  cases zs with
  | nil =>
    have hne : w.toNat ≠ 128 := fun e => hh (by rw [show w = 128 from UInt8.toNat_inj.1 (by simpa using e)]; rfl)
    have e : vexact ([] ++ [w]) = w.toNat % 128 := by simp [vexact]
    rw [e, encH_pos (by omega), show w.toNat % 128 / 128 = 0 by omega, encH_zero, Nat.mod_mod, hback]
  | cons z zs =>
    have h1 := ih (fun u hu => hge u (by simp at hu ⊢; rcases hu with h | h <;> simp [h])) hh
    have h0 : vexact (z :: zs) ≠ 0 := fun e => by rw [e, encH_zero] at h1; cases h1
    rw [vexact_snoc, encH_pos (by omega), show (vexact (z :: zs) * 128 + w.toNat % 128) / 128 = vexact (z :: zs) by omega, h1, show (vexact (z :: zs) * 128 + w.toNat % 128) % 128 = w.toNat % 128 by omega, hback]
theorem enc_read {l : List UInt8} {a : Nat} (h : uCode l a = 0) : enc (uVal l a) = (l.drop a).take (cont l a + 1) := by
  have hcd := h
  unfold uCode at h
  split at h
  · cases h
  · rename_i hlen
    split at h
    · cases h
    · rename_i hne
      split at h
      · rename_i hm
        obtain ⟨u, hu⟩ : ∃ u, l[a + cont l a]? = some u := ⟨_, List.getElem?_eq_getElem (by omega)⟩
        have hu128 := cont_end hu
        have hsplit : (l.drop a).take (cont l a + 1) = (l.drop a).take (cont l a) ++ [u] := by
          rw [List.take_add_one, List.getElem?_drop, hu]; rfl
        have hys : ∀ y ∈ (l.drop a).take (cont l a), 128 ≤ y.toNat := by
          intro y hy
          obtain ⟨j, hj⟩ := List.mem_iff_getElem?.1 hy
          have hjc : j < cont l a := by
            have := (List.getElem?_eq_some_iff.1 hj).1
            simp at this; omega
          obtain ⟨x, hx, hx2⟩ := cont_lt hjc
          rw [List.getElem?_take_of_lt hjc, List.getElem?_drop, hx] at hj
          cases hj; exact hx2
        have hhead : ((l.drop a).take (cont l a)).head? ≠ some 128 := by
          intro e
          rw [List.head?_eq_getElem?] at e
          have hc0 : 0 < cont l a := by
            have := (List.getElem?_eq_some_iff.1 e).1
            simp at this; omega
          rw [List.getElem?_take_of_lt hc0, List.getElem?_drop, Nat.add_zero] at e
          exact hne e
        have hb := encH_back _ hys hhead
        have hll : ((l.drop a).take (cont l a)).length = cont l a := by simp; omega
        have hex : vexact ((l.drop a).take (cont l a + 1)) < 18446744073709551616 := by
          rcases hm with hm | ⟨hm, hm2⟩
          · have := vexact_lt ((l.drop a).take (cont l a + 1))
            rw [hsplit, List.length_append, hll, List.length_singleton] at this
            rw [hsplit]
            have hp : 128 ^ (cont l a + 1) ≤ 128 ^ 9 := Nat.pow_le_pow_right (by decide) (by omega)
            have : (128 : Nat) ^ 9 = 9223372036854775808 := rfl
            omega
          · obtain ⟨r, hr⟩ : ∃ r, (l.drop a).take (cont l a + 1) = 129 :: r := by
              cases hq : (l.drop a).take (cont l a + 1) with
              | nil => rw [hsplit] at hq; simp at hq
              | cons y r =>
                have h0 : ((l.drop a).take (cont l a + 1))[0]? = some y := by rw [hq]; rfl
                rw [List.getElem?_take_of_lt (by omega), List.getElem?_drop, Nat.add_zero, hm2] at h0
                cases h0; exact ⟨r, rfl⟩
            have hrl : r.length = 9 := by
              have := congrArg List.length hr
              rw [hsplit, List.length_append, hll] at this
              simp at this; omega
            rw [hr, vexact_cons, hrl]
            have h3 := vexact_lt r
            rw [hrl] at h3
            have h4 : (128 : Nat) ^ 9 = 9223372036854775808 := rfl
            rw [h4] at h3 ⊢
            have h5 : (129 : UInt8).toNat % 128 = 1 := by decide
            rw [h5]; omega
        have hv : uVal l a = vexact ((l.drop a).take (cont l a + 1)) := by
          unfold uVal; rw [val_vexact, Nat.mod_eq_of_lt hex]
        rw [hv, hsplit, vexact_snoc, enc, show (vexact ((l.drop a).take (cont l a)) * 128 + u.toNat % 128) / 128 = vexact ((l.drop a).take (cont l a)) by omega, hb]
        congr 1
        rw [show (vexact ((l.drop a).take (cont l a)) * 128 + u.toNat % 128) % 128 = u.toNat by omega, UInt8.ofNat_toNat]
      · cases h
end Go.Proofs.YtgimodceldoniaaGreatDoor
namespace Go.Proofs.YtgimodceldoniaaGreatDoor
open Go.RowKit
inductive Fk where
  | ww | nn | kk | tt | bb
def Fk.enc : Fk → Value → List UInt8
  | .ww, .int _ x => Go.Proofs.YtgimodceldoniaaGreatDoor.enc (zz x)
  | .nn, .int _ x => Go.Proofs.YtgimodceldoniaaGreatDoor.enc x.toNat
  | .kk, .int _ x => Go.Proofs.YtgimodceldoniaaGreatDoor.enc x.toNat
  | .tt, .bool x => encB x
  | .bb, .int _ x => [UInt8.ofNat x.toNat]
  | _, _ => []
def Fk.ok : Fk → Value → Prop
  | .ww, v => ∃ x : Int, v = .int .i64 x ∧ -9223372036854775808 ≤ x ∧ x < 9223372036854775808
  | .nn, v => ∃ x : Int, v = .int .u64 x ∧ 0 ≤ x ∧ x < 18446744073709551616
  | .kk, v => ∃ x : Int, v = .int .u32 x ∧ 0 ≤ x ∧ x < 4294967296
  | .tt, v => ∃ x : Bool, v = .bool x
  | .bb, v => ∃ x : UInt8, v = bV x
inductive PR (α : Type) where
  | ok (x : α) (next : Nat)
  | bad (code at_ : Nat)
def PR.bind {α β : Type} (r : PR α) (f : α → Nat → PR β) : PR β := match r with
  | .ok x n => f x n
  | .bad c a => .bad c a
def Fk.pr (l : List UInt8) (a : Nat) : Fk → PR Value
  | .ww => if uCode l a = 0 then .ok (.int .i64 (whole (uVal l a))) (uNext l a) else .bad (uCode l a) a
  | .nn => if uCode l a = 0 then .ok (.int .u64 (uVal l a)) (uNext l a) else .bad (uCode l a) a
  | .kk => if uCode l a = 0 then (if uVal l a < 4294967296 then .ok (.int .u32 (uVal l a)) (uNext l a) else .bad 4 a) else .bad (uCode l a) a
  | .tt => if tCode l a = 0 then .ok (.bool ((bVal l a).toNat == 1)) (a + 1) else .bad (tCode l a) a
  | .bb => if bCode l a = 0 then .ok (bV (bVal l a)) (a + 1) else .bad (bCode l a) a
def encs : List Fk → List Value → List UInt8
  | f :: fs, v :: vs => f.enc v ++ encs fs vs
  | _, _ => []
def Oks : List Fk → List Value → Prop
  | [], [] => True
  | f :: fs, v :: vs => f.ok v ∧ Oks fs vs
  | _, _ => False
def prs (l : List UInt8) : List Fk → Nat → PR (List Value)
  | [], a => .ok [] a
  | f :: fs, a => (f.pr l a).bind fun v a' => (prs l fs a').bind fun vs a'' => .ok (v :: vs) a''
def prn (l : List UInt8) (es : List Fk) : Nat → Nat → PR (List (List Value))
  | 0, a => .ok [] a
  | n + 1, a => (prs l es a).bind fun v a' => (prn l es n a').bind fun vs a'' => .ok (v :: vs) a''
def prl (l : List UInt8) (most : Nat) (es : List Fk) (a : Nat) : PR (List (List Value)) :=
  (Fk.nn.pr l a).bind fun _ a' => if uVal l a ≤ most then prn l es (uVal l a) a' else .bad 4 a
def encl (es : List Fk) (vss : List (List Value)) : List UInt8 := enc vss.length ++ vss.flatMap (encs es)
theorem Oks.len : ∀ {fs : List Fk} {vs : List Value}, Oks fs vs → vs.length = fs.length
  | [], [], _ => rfl
  | _ :: _, _ :: _, h => by simp [Oks.len h.2]
  | [], _ :: _, h => h.elim
  | _ :: _, [], h => h.elim
theorem Oks.app : ∀ {fs gs : List Fk} {vs us : List Value}, Oks fs vs → Oks gs us → Oks (fs ++ gs) (vs ++ us)
  | [], _, [], _, _, h => h
  | _ :: _, _, _ :: _, _, h1, h2 => ⟨h1.1, Oks.app h1.2 h2⟩
  | [], _, _ :: _, _, h, _ => h.elim
  | _ :: _, _, [], _, h, _ => h.elim
theorem PR.bind_ok {α β : Type} {r : PR α} {f : α → Nat → PR β} {y : β} {b : Nat} (h : r.bind f = .ok y b) : ∃ x a, r = .ok x a ∧ f x a = .ok y b := by
  cases r with
  | ok x a => exact ⟨x, a, rfl, h⟩
  | bad c a => cases h
theorem prs_app (l : List UInt8) : ∀ (fs gs : List Fk) (a : Nat), prs l (fs ++ gs) a = (prs l fs a).bind fun vs a' => (prs l gs a').bind fun us a'' => .ok (vs ++ us) a''
  | [], gs, a => by
    simp only [List.nil_append, prs, PR.bind]
    cases prs l gs a <;> rfl
  | f :: fs, gs, a => by
    simp only [List.cons_append, prs]
    cases f.pr l a with
    | bad c a => rfl
    | ok v a' =>
      simp only [PR.bind]
      rw [prs_app l fs gs a']
      cases prs l fs a' with
      | bad c a => rfl
      | ok vs a'' =>
        simp only [PR.bind]
        cases prs l gs a'' <;> rfl
theorem zz_whole {n : Nat} : zz (whole n) = n := by
  unfold whole
  split
  · unfold zz; rw [if_pos (by omega)]; omega
  · unfold zz; rw [if_neg (by omega)]; omega
theorem whole_rng {n : Nat} (h : n < 18446744073709551616) : -9223372036854775808 ≤ whole n ∧ whole n < 9223372036854775808 := by
  unfold whole; split <;> omega
def cut (l : List UInt8) (a b : Nat) : List UInt8 := (l.drop a).take (b - a)
theorem cut_app {l : List UInt8} {a b c : Nat} (h1 : a ≤ b) (h2 : b ≤ c) : cut l a b ++ cut l b c = cut l a c := by
  unfold cut
  rw [show c - a = (b - a) + (c - b) by omega, List.take_add, List.drop_drop]
  congr 3
  omega
theorem cut_self (l : List UInt8) (a : Nat) : cut l a a = [] := by unfold cut; simp
theorem byte_cut {l : List UInt8} {a : Nat} (h : a < l.length) : cut l a (a + 1) = [bVal l a] := by
  unfold cut bVal
  rw [show a + 1 - a = 1 by omega, List.getElem?_eq_getElem h, List.drop_eq_getElem_cons h]
  rfl
def Went (l : List UInt8) (ok : Prop) (bs : List UInt8) (a b : Nat) : Prop := ok ∧ a ≤ b ∧ b ≤ l.length ∧ bs = cut l a b
theorem u_went {l : List UInt8} {a : Nat} (h : uCode l a = 0) : a ≤ uNext l a ∧ uNext l a ≤ l.length ∧ enc (uVal l a) = cut l a (uNext l a) := by
  refine ⟨by unfold uNext; omega, uNext_le h, ?_⟩
  rw [enc_read h]
  unfold cut uNext
  congr 1
  omega
theorem pr_went {l : List UInt8} {a b : Nat} {f : Fk} {v : Value} (h : f.pr l a = .ok v b) : Went l (f.ok v) (f.enc v) a b := by
  have hv := val_lt ((l.drop a).take (cont l a + 1))
  cases f with
  | ww =>
    simp only [Fk.pr] at h
    split at h
    · rename_i hc
      cases h
      obtain ⟨h1, h2, h3⟩ := u_went hc
      refine ⟨⟨_, rfl, whole_rng hv⟩, h1, h2, ?_⟩
      show enc (zz (whole (uVal l a))) = _
      rw [zz_whole, h3]
    · cases h
  | nn =>
    simp only [Fk.pr] at h
    split at h
    · rename_i hc
      cases h
      obtain ⟨h1, h2, h3⟩ := u_went hc
      refine ⟨⟨_, rfl, by omega, by unfold uVal; omega⟩, h1, h2, ?_⟩
      show enc ((uVal l a : Nat) : Int).toNat = _
      rw [Int.toNat_natCast, h3]
    · cases h
  | kk =>
    simp only [Fk.pr] at h
    split at h
    · rename_i hc
      split at h
      · cases h
        obtain ⟨h1, h2, h3⟩ := u_went hc
        refine ⟨⟨_, rfl, by omega, by omega⟩, h1, h2, ?_⟩
        show enc ((uVal l a : Nat) : Int).toNat = _
        rw [Int.toNat_natCast, h3]
      · cases h
    · cases h
  | tt =>
    simp only [Fk.pr] at h
    split at h
    · rename_i hc
      cases h
      unfold tCode at hc
      split at hc
      · rename_i hlt
        split at hc
        · rename_i h1
          refine ⟨⟨_, rfl⟩, by omega, by omega, ?_⟩
          rw [byte_cut hlt]
          show encB ((bVal l a).toNat == 1) = _
          by_cases h0 : (bVal l a).toNat = 1
          · rw [show ((bVal l a).toNat == 1) = true by simpa using h0]
            show [1] = _
            congr 1
            exact (UInt8.toNat_inj.1 (by rw [h0]; rfl)).symm
          · rw [show ((bVal l a).toNat == 1) = false by simpa using h0]
            show [0] = _
            congr 1
            exact (UInt8.toNat_inj.1 (show (bVal l a).toNat = 0 by omega)).symm
        · cases hc
      · cases hc
    · cases h
  | bb =>
    simp only [Fk.pr] at h
    split at h
    · rename_i hc
      cases h
      have hlt := bNext_le hc
      refine ⟨⟨_, rfl⟩, by omega, by omega, ?_⟩
      rw [byte_cut (by omega)]
      show [UInt8.ofNat ((bVal l a).toNat : Int).toNat] = _
      rw [Int.toNat_natCast, UInt8.ofNat_toNat]
    · cases h
theorem prs_went {l : List UInt8} : ∀ {fs : List Fk} {a b : Nat} {vs : List Value}, a ≤ l.length → prs l fs a = .ok vs b → Went l (Oks fs vs) (encs fs vs) a b
  | [], a, b, vs, ha, h => by
    cases h
    exact ⟨trivial, Nat.le_refl _, ha, (cut_self l a).symm⟩
  | f :: fs, a, b, vs, ha, h => by
    obtain ⟨v, a', h1, h2⟩ := PR.bind_ok h
    obtain ⟨us, a'', h3, h4⟩ := PR.bind_ok h2
    cases h4
    obtain ⟨o1, l1, l2, e1⟩ := pr_went h1
    obtain ⟨o2, l3, l4, e2⟩ := prs_went l2 h3
    refine ⟨⟨o1, o2⟩, by omega, l4, ?_⟩
    show f.enc v ++ encs fs us = _
    rw [e1, e2, cut_app l1 l3]
theorem prn_went {l : List UInt8} {es : List Fk} : ∀ {n a b : Nat} {vss : List (List Value)}, a ≤ l.length → prn l es n a = .ok vss b → Went l (vss.length = n ∧ ∀ vs ∈ vss, Oks es vs) (vss.flatMap (encs es)) a b
  | 0, a, b, vss, ha, h => by
    cases h
    exact ⟨⟨rfl, by simp⟩, Nat.le_refl _, ha, (cut_self l a).symm⟩
  | n + 1, a, b, vss, ha, h => by
    obtain ⟨v, a', h1, h2⟩ := PR.bind_ok h
    obtain ⟨us, a'', h3, h4⟩ := PR.bind_ok h2
    cases h4
    obtain ⟨o1, l1, l2, e1⟩ := prs_went ha h1
    obtain ⟨o2, l3, l4, e2⟩ := prn_went l2 h3
    refine ⟨⟨by simp [o2.1], fun vs hv => ?_⟩, by omega, l4, ?_⟩
    · rcases List.mem_cons.1 hv with rfl | hv
      · exact o1
      · exact o2.2 _ hv
    · rw [List.flatMap_cons, e1, e2, cut_app l1 l3]
theorem prl_went {l : List UInt8} {es : List Fk} {most a b : Nat} {vss : List (List Value)} (h : prl l most es a = .ok vss b) : Went l (vss.length ≤ most ∧ ∀ vs ∈ vss, Oks es vs) (encl es vss) a b := by
  obtain ⟨v, a', h1, h2⟩ := PR.bind_ok h
  obtain ⟨o1, l1, l2, e1⟩ := pr_went h1
  simp only [Fk.pr] at h1
  split at h1
  · cases h1
    split at h2
    · rename_i hm
      obtain ⟨o2, l3, l4, e2⟩ := prn_went l2 h2
      refine ⟨⟨by omega, o2.2⟩, by omega, l4, ?_⟩
      have e1' : enc (uVal l a) = cut l a (uNext l a) := by
        have : Fk.enc .nn (.int .u64 (uVal l a)) = enc (uVal l a) := by show enc ((uVal l a : Nat) : Int).toNat = _; rw [Int.toNat_natCast]
        rw [← this]; exact e1
      unfold encl
      rw [o2.1, e1', e2, cut_app l1 l3]
    · cases h2
  · cases h1
end Go.Proofs.YtgimodceldoniaaGreatDoor
namespace Go.Proofs.YtgimodceldoniaaGreatDoor
open Go.RowKit
def FnE (P : Program) (f : FuncId) (args : List Value) (L : List (Nat × Obj)) (Rr Rp : Value → List (Nat × Obj) → Prop) : Prop := ∀ g w, Mem g L w → Calls P f args.toArray w (EndR g Rr Rp)
theorem EndR.mono {g : World} {Rr Rp Rr' Rp' : Value → List (Nat × Obj) → Prop} (h1 : ∀ v L, Rr v L → Rr' v L) (h2 : ∀ v L, Rp v L → Rp' v L) {e : Ending} {w : World} (h : EndR g Rr Rp e w) : EndR g Rr' Rp' e w := by
  rcases h with ⟨v, L, a, b, c⟩ | ⟨v, L, a, b, c⟩
  · exact .inl ⟨v, L, a, b, h1 v L c⟩
  · exact .inr ⟨v, L, a, b, h2 v L c⟩
theorem FnE.mono {P : Program} {f : FuncId} {args : List Value} {L : List (Nat × Obj)} {Rr Rp Rr' Rp' : Value → List (Nat × Obj) → Prop} (h : FnE P f args L Rr Rp) (h1 : ∀ v L, Rr v L → Rr' v L) (h2 : ∀ v L, Rp v L → Rp' v L) : FnE P f args L Rr' Rp' :=
  fun g w hm => (h g w hm).mono fun _ _ hE => hE.mono h1 h2
theorem FnE.perm {P : Program} {f : FuncId} {args : List Value} {L L1 : List (Nat × Obj)} {Rr Rp Rr1 Rp1 : Value → List (Nat × Obj) → Prop} (h : FnE P f args L1 Rr1 Rp1) (hp : L1.Perm L) (h1 : ∀ v L', Rr1 v L' → ∃ L2, L2.Perm L' ∧ Rr v L2) (h2 : ∀ v L', Rp1 v L' → ∃ L2, L2.Perm L' ∧ Rp v L2) : FnE P f args L Rr Rp :=
  fun g w hm => (h g w (hm.perm hp)).mono fun _ _ hE => by
    rcases hE with ⟨v, L', a, b, c⟩ | ⟨v, L', a, b, c⟩
    · obtain ⟨L2, p, q⟩ := h1 v L' c; exact .inl ⟨v, L2, a, b.perm p, q⟩
    · obtain ⟨L2, p, q⟩ := h2 v L' c; exact .inr ⟨v, L2, a, b.perm p, q⟩
theorem FnE.ofFn {P : Program} {f : FuncId} {args : List Value} {L : List (Nat × Obj)} {Rr Rp : Value → List (Nat × Obj) → Prop} (h : Fn P f args L Rr) : FnE P f args L Rr Rp :=
  fun g w hm => (h g w hm).mono fun _ _ ⟨v, L', h1, h2, h3⟩ => .inl ⟨v, L', h1, h2, h3⟩
theorem FnE.toFn {P : Program} {f : FuncId} {args : List Value} {L : List (Nat × Obj)} {Rr Rp : Value → List (Nat × Obj) → Prop} (h : FnE P f args L Rr Rp) (hn : ∀ v L', ¬ Rp v L') : Fn P f args L Rr :=
  fun g w hm => (h g w hm).mono fun _ _ hE => by
    rcases hE with ⟨v, L', a, b, c⟩ | ⟨v, L', _, _, c⟩
    · exact ⟨v, L', a, b, c⟩
    · exact (hn v L' c).elim
theorem FnE_enter {P : Program} {f : FuncId} {fn : Func} {code : Code} {args : List Value} {L : List (Nat × Obj)} {Rr Rp : Value → List (Nat × Obj) → Prop} {N : Nat} (hf : P.funcs[f]? = some fn) (hb : fn.body = some code) (hN : fn.ntmps = N) (hl : Nat.ble args.length N = true)
    (h : ∀ g, WC ⟨P, g, N, 0, none⟩ code (postL ⟨P, g, N, 0, none⟩ fn Rr Rp) ⟨initS 0 args, [], L⟩) : FnE P f args L Rr Rp := enterL hf hb hN hl h
section
variable {c : Cx} {o : Oper} {Kn : St → Prop} {K : Exit → St → Prop} {σ : St}
theorem OW_enterE {f : FuncId} {vs : List Value} {Rr Rp : Value → List (Nat × Obj) → Prop} (hnd : ∀ cc, o.op ≠ .defer cc) (hr : ∀ a w, Holds c.g c.N σ a w → (execOp a.eval o).run c.P w = .ok (.enter f vs.toArray) w) (hd : dok c.N o.dst = true)
    (hF : FnE c.P f vs σ.L Rr Rp) (hk : ∀ v L', Rr v L' → Kn (St.put ⟨σ.s, σ.D, L'⟩ o.dst v)) (hp : ∀ v L', Rp v L' → K (.panic (pan v)) ⟨[], σ.D, L'⟩) : OW c o Kn K σ := fun a w hH => by
  refine ⟨fun _ _ => trivial, ?_⟩
  rw [Oper.semAt_eq _ _ _ hnd, hr a w hH]
  refine ⟨fun h => by simp at h, (callsIn_fw c.r _ (hF c.g w hH.mem)).mono fun e w' hE => ?_⟩
  rcases hE with ⟨v, L', h1, h2, h3⟩ | ⟨v, L', h1, h2, h3⟩
  · subst h1
    exact ⟨_, (hH.mem' h2).put hd v, hk v L' h3⟩
  · subst h1
    exact ⟨σ.D, L', ⟨hH.size, (fun t u hu => by cases hu), hH.defers, h2⟩, hp v L' h3⟩
theorem call_run {f : FuncId} {x : Operand} {A B : Array Value} {args : Array Operand} {tys : Array TypeId} [hf : FCall c.P f] {vs : List Value} (ho : o.op = .call { callee := .value x, args := args, argTypes := tys }) (hx : ev σ.s x = some (.func (.func f) A B)) (ha : evs σ.s args.toList = some vs) (a : Act) (w : World) (hH : Holds c.g c.N σ a w) :
    (execOp a.eval o).run c.P w = .ok (.enter f (A.toList ++ vs ++ B.toList).toArray) w := by
  have hargs : args.map a.eval = vs.toArray := by
    apply Array.ext'
    simpa using hH.evs ha
  have e : (A.toList ++ vs ++ B.toList).toArray = A ++ vs.toArray ++ B := by apply Array.ext'; simp
  rw [e]
  simp [execOp, ho, resolve, Deferred.ofValue, hH.ev hx, hargs, invoke, hf.h]
end
theorem OW_callE {c : Cx} {o : Oper} {Kn : St → Prop} {K : Exit → St → Prop} {s : List (Nat × Value)} {D : List Deferred} {L : List (Nat × Obj)} {f d : FuncId} {x : Operand} {args : Array Operand} {tys : Array TypeId} [hf : FCall c.P f] {vs : List Value} {Rr Rp : Value → List (Nat × Obj) → Prop}
    (ho : o.op = .call { callee := .value x, args := args, argTypes := tys }) (hF : FnE c.P f vs L Rr Rp) (hk : ∀ v L', Rr v L' → Kn ⟨(d, v) :: s, D, L'⟩) (hp : ∀ v L', Rp v L' → K (.panic (pan v)) ⟨[], D, L'⟩)
    (hdst : o.dst = some d := by exact rfl) (hd : Nat.blt d c.N = true := by exact rfl) (hx : ev s x = some (.func (.func f) #[] #[]) := by exact rfl) (ha : evs s args.toList = some vs := by exact rfl) : OW c o Kn K ⟨s, D, L⟩ :=
  OW_enterE (σ := ⟨s, D, L⟩) (by rw [ho]; intro cc h; cases h) (call_run ho hx ha) (by rw [hdst]; exact hd) (by simpa using hF) (by rw [hdst]; exact hk) hp
theorem OW_invE {c : Cx} {o : Oper} {Kn : St → Prop} {K : Exit → St → Prop} {s : List (Nat × Value)} {D : List Deferred} {L : List (Nat × Obj)} {f d : FuncId} {x : Operand} {name : String} {args : Array Operand} {tys : Array TypeId} {t : TypeId} {r : Value} (hm : methX c.P t name = some f) [hf : FCall c.P f] {vs : List Value} {Rr Rp : Value → List (Nat × Obj) → Prop}
    (ho : o.op = .call { callee := .invoke x name, args := args, argTypes := tys }) (hF : FnE c.P f (r :: vs) L Rr Rp) (hk : ∀ v L', Rr v L' → Kn ⟨(d, v) :: s, D, L'⟩) (hp : ∀ v L', Rp v L' → K (.panic (pan v)) ⟨[], D, L'⟩)
    (hdst : o.dst = some d := by exact rfl) (hd : Nat.blt d c.N = true := by exact rfl) (hx : ev s x = some (.iface t r) := by exact rfl) (ha : evs s args.toList = some vs := by exact rfl) : OW c o Kn K ⟨s, D, L⟩ :=
  OW_enterE (σ := ⟨s, D, L⟩) (by rw [ho]; intro cc h; cases h) (fun a w hH => invoke_run ho hx ha hm a w hH) (by rw [hdst]; exact hd) hF (by rw [hdst]; exact hk) hp
def Free (fr : Nat × Nat) (off n : Nat) : Prop := ∀ k, k < n → ¬ (fr.1 ≤ off + k ∧ off + k < fr.2)
theorem Free.sub {fr : Nat × Nat} {off n : Nat} (h : Free fr off n) (j m : Nat) (hm : j + m ≤ n) : Free fr (off + j) m := fun k hk => by
  have := h (j + k) (by omega)
  rwa [← Nat.add_assoc] at this
theorem Free.zero (off n : Nat) : Free (0, 0) off n := fun k _ => by simp
theorem OW_store1F {c : Cx} {o : Oper} {Kn : St → Prop} {K : Exit → St → Prop} {s : List (Nat × Value)} {D : List Deferred} {L : List (Nat × Obj)} {t : TypeId} [hs : TSize c.P t 1] {x y : Operand} {b off : Nat} {cs : Array Value} {v : Value} {E : TypeId} {fr : Nat × Nat} (ho : o.op = .store t x y) (i : Nat) (hi : L[i]? = some (b, .cells cs E fr)) (hl : off < cs.size) (hfr : Free fr off 1)
    (hk : Kn ⟨s, D, L.set i (b, .cells (cs.setIfInBounds off v) E fr)⟩) (hdst : o.dst = none := by exact rfl) (hx : ev s x = some (.pointer (some ⟨b, off, none⟩)) := by exact rfl) (hy : ev s y = some v := by exact rfl) (h1 : v.oneCell' = true := by exact rfl) : OW c o Kn K ⟨s, D, L⟩ := fun a w ha => by
  refine ⟨fun _ _ => trivial, ?_⟩
  have hcell : w.cell? ⟨b, off, none⟩ = some cs[off] := by rw [cell_of_row w b off cs E fr (ha.mem.at_ hi)]; simp [hl]
  have hfro : w.frozen? ⟨b, off, none⟩ = false := by
    obtain ⟨lo, hi'⟩ := fr
    have h2 := hfr 0 (by omega)
    simp only [Nat.add_zero] at h2
    unfold World.frozen?
    simp only [ha.mem.at_ hi, Bool.and_eq_false_iff, decide_eq_false_iff_not]
    omega
  have hc1 : v.cells = #[v] := by cases v <;> first | rfl | cases h1
  have hr : (execOp a.eval o).run c.P w = .ok .skip (w.setRow b (cs.setIfInBounds off v)) := by
    have hst : (store (⟨b, off, none⟩ : Addr) v).run c.P w = .ok () (w.setRow b (cs.setIfInBounds off v)) := by
      rw [run_store c.P w _ v _ h1, hcell]
      simp [hfro, setCell_eq_setRow w b off cs E fr v (ha.mem.at_ hi)]
    simp [execOp, ho, ha.ev hx, ha.ev hy, Instr.storeAt, Instr.sureAddr, storeVar, hs.h, hc1, storeCells, Addr.add, hst]
  rw [Oper.semAt_eq _ _ _ (by rw [ho]; intro cc h; cases h), hr]
  refine ⟨_, ?_, hk⟩
  rw [hdst]
  exact ha.mem' (ha.mem.setRow hi _)
theorem set_app {A R : List (Nat × Obj)} {i : Nat} {q : Nat × Obj} : (A ++ R).set (A.length + i) q = A ++ R.set i q := by
  rw [List.set_append_right _ _ (by omega)]
  congr 2
  omega
theorem get_app {A R : List (Nat × Obj)} {i : Nat} {q : Nat × Obj} (h : R[i]? = some q) : (A ++ R)[A.length + i]? = some q := by
  rw [List.getElem?_append_right (by omega), show A.length + i - A.length = i by omega]; exact h
def Lies (cs : Array Value) (off : Nat) (vs : List Value) : Prop := ∀ j v, vs[j]? = some v → cs[off + j]? = some v
structure Upd (cs cs' : Array Value) (off : Nat) (vs : List Value) : Prop where
  size : cs'.size = cs.size
  lies : Lies cs' off vs
  rest : ∀ q, q < off ∨ off + vs.length ≤ q → cs'[q]? = cs[q]?
theorem Lies.cons {cs : Array Value} {off : Nat} {v : Value} {vs : List Value} (h : Lies cs off (v :: vs)) : cs[off]? = some v ∧ Lies cs (off + 1) vs :=
  ⟨h 0 v rfl, fun j u hj => by rw [Nat.add_assoc, Nat.add_comm 1 j]; exact h (j + 1) u hj⟩
theorem Lies.app {cs : Array Value} {off : Nat} {vs us : List Value} (h : Lies cs off (vs ++ us)) : Lies cs off vs ∧ Lies cs (off + vs.length) us :=
  ⟨fun j v hj => h j v (by rw [List.getElem?_append_left (List.getElem?_eq_some_iff.1 hj).1]; exact hj), fun j v hj => by
    rw [Nat.add_assoc]; exact h _ v (by rw [List.getElem?_append_right (by omega), show vs.length + j - vs.length = j by omega]; exact hj)⟩
theorem Lies.cut {cs : Array Value} {off : Nat} {vs : List Value} (h : Lies cs off vs) (at_ m : Nat) : Lies cs (off + at_) ((vs.drop at_).take m) := fun j v hj => by
  rw [Nat.add_assoc]
  refine h _ v ?_
  rw [List.getElem?_take] at hj
  split at hj
  · rwa [List.getElem?_drop] at hj
  · cases hj
theorem Upd.app {cs cs1 cs2 : Array Value} {off off' : Nat} {vs us : List Value} (h1 : Upd cs cs1 off vs) (h2 : Upd cs1 cs2 off' us) (ho : off' = off + vs.length) : Upd cs cs2 off (vs ++ us) := by
  subst ho
  refine ⟨h2.size.trans h1.size, fun j v hj => ?_, fun q hq => ?_⟩
  · by_cases hlt : j < vs.length
    · rw [List.getElem?_append_left hlt] at hj
      rw [h2.rest _ (.inl (by omega))]; exact h1.lies j v hj
    · rw [List.getElem?_append_right (by omega)] at hj
      have := h2.lies _ v hj
      rwa [show off + vs.length + (j - vs.length) = off + j by omega] at this
  · rw [List.length_append] at hq
    rw [h2.rest q (by omega), h1.rest q (by omega)]
theorem Upd.refl_of {cs : Array Value} {off : Nat} {vs : List Value} (h : Lies cs off vs) : Upd cs cs off vs := ⟨rfl, h, fun _ _ => rfl⟩
theorem Upd.keep {cs cs' : Array Value} {off off' : Nat} {vs us : List Value} (h : Upd cs cs' off vs) (hl : Lies cs off' us) (hd : off' + us.length ≤ off ∨ off + vs.length ≤ off') : Lies cs' off' us := fun j v hj => by
  have := (List.getElem?_eq_some_iff.1 hj).1
  rw [h.rest _ (by omega)]; exact hl j v hj
theorem Upd.same {cs cs' : Array Value} {off : Nat} {vs : List Value} (h : Upd cs cs' off vs) (hl : Lies cs off vs) : cs' = cs := by
  apply Array.ext_getElem?
  intro q
  by_cases hq : q < off ∨ off + vs.length ≤ q
  · exact h.rest q hq
  · obtain ⟨v, hv⟩ : ∃ v, vs[q - off]? = some v := ⟨_, List.getElem?_eq_getElem (by omega)⟩
    have h1 := h.lies _ v hv
    have h2 := hl _ v hv
    rw [show off + (q - off) = q by omega] at h1 h2
    rw [h1, h2]
theorem Upd.one {cs : Array Value} {off : Nat} (v : Value) (h : off < cs.size) : Upd cs (cs.setIfInBounds off v) off [v] := by
  refine ⟨by simp, fun j u hj => ?_, fun q hq => ?_⟩
  · cases j with
    | zero => simp at hj; subst hj; simp [h]
    | succ j => simp at hj
  · rw [Array.getElem?_setIfInBounds_ne (by simp at hq; omega)]
inductive RW (S : Type) where
  | ok (s : S) (v : Value)
  | bad (code at_ : Nat)
inductive RWs (S : Type) where
  | ok (s : S) (vs : List Value)
  | bad (code at_ : Nat)
structure Wy (P : Program) where
  S : Type
  t : TypeId
  v : Value
  T0 : List (Nat × Obj)
  mem : S → List (Nat × Obj) → Prop
  room : S → Nat → Prop
  stp : Fk → S → Value → RW S
  hr : S → S
  mst : Bool → Nat → S → Option (Nat × Nat)
  hr_room : ∀ {s n}, room s n → room (hr s) n
  key_ok : ∀ {s x s' y}, 0 ≤ x → x < 4294967296 → stp .nn (hr s) (.int .u64 x) = .ok s' (.int .u64 y) → mst (decide (y ≤ 4294967295)) 4 s' = none → stp .kk s (.int .u32 x) = .ok s' (.int .u32 y) ∧ y < 4294967296
  key_bad : ∀ {s x c a}, stp .nn (hr s) (.int .u64 x) = .bad c a → stp .kk s (.int .u32 x) = .bad c a
  key_must : ∀ {s x s' y c a}, stp .nn (hr s) (.int .u64 x) = .ok s' (.int .u64 y) → mst (decide (y ≤ 4294967295)) 4 s' = some (c, a) → stp .kk s (.int .u32 x) = .bad c a
  keeps : T0 = [] ∨ ∀ k s x s' y, stp k s x = .ok s' y → y = x
  stp_ok : ∀ {k s x s' y}, stp k s x = .ok s' y → Fk.ok k x → Fk.ok k y
  stp_room : ∀ {k s x s' y n}, stp k s x = .ok s' y → Fk.ok k x → room s (n + 1) → room s' n
  room_le : ∀ {s n m}, room s n → m ≤ n → room s m
variable {P : Program}
def Wy.recv (W : Wy P) : Value := .iface W.t W.v
def Wy.stps (W : Wy P) : List Fk → W.S → List Value → RWs W.S
  | [], s, _ => .ok s []
  | _ :: _, s, [] => .ok s []
  | k :: ks, s, v :: vs => match W.stp k s v with
    | .bad c a => .bad c a
    | .ok s' v' => match W.stps ks s' vs with
      | .bad c a => .bad c a
      | .ok s'' vs' => .ok s'' (v' :: vs')
theorem Wy.stps_app (W : Wy P) : ∀ {ks : List Fk} {ls : List Fk} {s : W.S} {vs us : List Value}, Oks ks vs → W.stps (ks ++ ls) s (vs ++ us) = match W.stps ks s vs with
    | .bad c a => .bad c a
    | .ok s' vs' => match W.stps ls s' us with
      | .bad c a => .bad c a
      | .ok s'' us' => .ok s'' (vs' ++ us')
  | [], ls, s, [], us, _ => by
    simp only [List.nil_append, Wy.stps]
    cases W.stps ls s us <;> rfl
  | k :: ks, ls, s, v :: vs, us, h => by
    simp only [List.cons_append, Wy.stps]
    cases W.stp k s v with
    | bad c a => rfl
    | ok s' v' =>
      simp only
      rw [Wy.stps_app W h.2]
      cases W.stps ks s' vs with
      | bad c a => rfl
      | ok s'' vs' =>
        simp only
        cases W.stps ls s'' us <;> rfl
  | [], _, _, _ :: _, _, h => h.elim
  | _ :: _, _, _, [], _, h => h.elim
theorem Wy.stps_ok (W : Wy P) : ∀ {ks : List Fk} {s s' : W.S} {vs us : List Value}, W.stps ks s vs = .ok s' us → Oks ks vs → Oks ks us
  | [], _, _, [], us, h, _ => by simp only [Wy.stps] at h; cases h; trivial
  | k :: ks, s, s', v :: vs, us, h, ho => by
    simp only [Wy.stps] at h
    cases h1 : W.stp k s v with
    | bad c a => rw [h1] at h; cases h
    | ok s1 v1 =>
      rw [h1] at h
      cases h2 : W.stps ks s1 vs with
      | bad c a => simp only [h2] at h; cases h
      | ok s2 vs2 =>
        simp only [h2] at h
        cases h
        exact ⟨W.stp_ok h1 ho.1, Wy.stps_ok W h2 ho.2⟩
  | [], _, _, _ :: _, _, _, h => h.elim
  | _ :: _, _, _, [], _, _, h => h.elim
theorem Wy.stps_room (W : Wy P) : ∀ {ks : List Fk} {s s' : W.S} {vs us : List Value} {n : Nat}, W.stps ks s vs = .ok s' us → Oks ks vs → W.room s (n + ks.length) → W.room s' n
  | [], _, _, [], us, n, h, _, hr => by simp only [Wy.stps] at h; cases h; exact hr
  | k :: ks, s, s', v :: vs, us, n, h, ho, hr => by
    simp only [Wy.stps] at h
    cases h1 : W.stp k s v with
    | bad c a => rw [h1] at h; cases h
    | ok s1 v1 =>
      rw [h1] at h
      cases h2 : W.stps ks s1 vs with
      | bad c a => simp only [h2] at h; cases h
      | ok s2 vs2 =>
        simp only [h2] at h
        cases h
        exact Wy.stps_room W h2 ho.2 (W.stp_room h1 ho.1 hr)
  | [], _, _, _ :: _, _, _, _, h, _ => h.elim
  | _ :: _, _, _, [], _, _, _, h, _ => h.elim
theorem Wy.cat_ok (W : Wy P) {fs gs : List Fk} {s s1 s2 : W.S} {vs us vs1 us2 : List Value} (h1 : W.stps fs s vs = .ok s1 vs1) (ho : Oks fs vs) (h2 : W.stps gs s1 us = .ok s2 us2) : W.stps (fs ++ gs) s (vs ++ us) = .ok s2 (vs1 ++ us2) := by
  rw [W.stps_app ho, h1]
  simp only [h2]
theorem Wy.cat_bad (W : Wy P) {fs gs : List Fk} {s s1 : W.S} {vs us vs1 : List Value} {c a : Nat} (h1 : W.stps fs s vs = .ok s1 vs1) (ho : Oks fs vs) (h2 : W.stps gs s1 us = .bad c a) : W.stps (fs ++ gs) s (vs ++ us) = .bad c a := by
  rw [W.stps_app ho, h1]
  simp only [h2]
theorem Wy.bad_cat (W : Wy P) {fs : List Fk} (gs : List Fk) {s : W.S} {vs : List Value} (us : List Value) {c a : Nat} (h1 : W.stps fs s vs = .bad c a) (ho : Oks fs vs) : W.stps (fs ++ gs) s (vs ++ us) = .bad c a := by
  rw [W.stps_app ho, h1]
theorem Wy.stps_len (W : Wy P) {fs : List Fk} {s s' : W.S} {vs us : List Value} (h : W.stps fs s vs = .ok s' us) (ho : Oks fs vs) : us.length = fs.length := (W.stps_ok h ho).len
theorem Wy.stps1_ok (W : Wy P) {k : Fk} {s s' : W.S} {v v' : Value} (h : W.stp k s v = .ok s' v') : W.stps [k] s [v] = .ok s' [v'] := by simp only [Wy.stps, h]
theorem Wy.stps1_bad (W : Wy P) {k : Fk} {s : W.S} {v : Value} {c a : Nat} (h : W.stp k s v = .bad c a) : W.stps [k] s [v] = .bad c a := by simp only [Wy.stps, h]
theorem Oks.split {k : Fk} {ks : List Fk} {vs : List Value} (h : Oks (k :: ks) vs) : ∃ v us, vs = v :: us ∧ k.ok v ∧ Oks ks us := by
  cases vs with
  | nil => exact h.elim
  | cons v us => exact ⟨v, us, rfl, h.1, h.2⟩
theorem Oks.nil {vs : List Value} (h : Oks [] vs) : vs = [] := by
  cases vs with
  | nil => rfl
  | cons v us => exact h.elim
theorem Oks.splitA : ∀ {fs gs : List Fk} {vs : List Value}, Oks (fs ++ gs) vs → ∃ us ws, vs = us ++ ws ∧ Oks fs us ∧ Oks gs ws
  | [], _, vs, h => ⟨[], vs, rfl, trivial, h⟩
  | _ :: fs, _, v :: vs, h => by
    obtain ⟨us, ws, rfl, h1, h2⟩ := Oks.splitA (fs := fs) h.2
    exact ⟨v :: us, ws, rfl, ⟨h.1, h1⟩, h2⟩
  | _ :: _, _, [], h => h.elim
def FRet (W : Wy P) (r : RWs W.S) (R : List (Nat × Obj)) (i b : Nat) (cs : Array Value) (E : TypeId) (fr : Nat × Nat) (off : Nat) (L' : List (Nat × Obj)) : Prop :=
  ∃ s' vs' Lp' cs', r = .ok s' vs' ∧ L' = Lp' ++ R.set i (b, .cells cs' E fr) ∧ W.mem s' Lp' ∧ Upd cs cs' off vs' ∧ ∀ q ∈ W.T0, q ∈ R.set i (b, .cells cs' E fr)
def FPan (W : Wy P) (r : RWs W.S) (R : List (Nat × Obj)) (i b : Nat) (cs : Array Value) (E : TypeId) (fr : Nat × Nat) (u : Value) (L' : List (Nat × Obj)) : Prop :=
  ∃ c a p s' Lp' cs', r = .bad c a ∧ u = flt p ∧ L' = (p, fltO c a) :: (Lp' ++ R.set i (b, .cells cs' E fr)) ∧ W.mem s' Lp' ∧ cs'.size = cs.size
def Flat (W : Wy P) (f : FuncId) (a0 : Value) (fs : List Fk) : Prop :=
  ∀ (s : W.S) (Lp R : List (Nat × Obj)) (i b : Nat) (cs : Array Value) (E : TypeId) (fr : Nat × Nat) (off : Nat) (vs : List Value), W.mem s Lp → (∀ q ∈ W.T0, q ∈ R) → W.room s fs.length → R[i]? = some (b, .cells cs E fr) → Oks fs vs → Lies cs off vs → Free fr off fs.length →
    FnE P f [a0, .pointer (some ⟨b, off, none⟩)] (Lp ++ R) (fun v L' => v = .tuple #[] ∧ FRet W (W.stps fs s vs) R i b cs E fr off L') (FPan W (W.stps fs s vs) R i b cs E fr)
theorem FnE.dropP {P : Program} {f : FuncId} {args : List Value} {L : List (Nat × Obj)} {Rr Rp Rp' : Value → List (Nat × Obj) → Prop} (h : FnE P f args L Rr Rp) (h2 : ∀ v L', Rp v L' → ∃ Lx, Lx.Sublist L' ∧ Rp' v Lx) : FnE P f args L Rr Rp' :=
  fun g w hm => (h g w hm).mono fun _ _ hE => by
    rcases hE with ⟨v, L', a, b, c⟩ | ⟨v, L', a, b, c⟩
    · exact .inl ⟨v, L', a, b, c⟩
    · obtain ⟨Lx, p, q⟩ := h2 v L' c; exact .inr ⟨v, Lx, a, b.sublist p, q⟩
theorem set_same {α : Type} {l : List α} {i : Nat} {x : α} (h : l[i]? = some x) : l.set i x = l := by
  apply List.ext_getElem?
  intro j
  rw [List.getElem?_set]
  obtain ⟨hl, he⟩ := List.getElem?_eq_some_iff.1 h
  by_cases e : i = j
  · subst e; simp [hl, he]
  · rw [if_neg e]
theorem get_set_self {α : Type} {l : List α} {i : Nat} {x : α} (h : l[i]? = some x) (y : α) : (l.set i y)[i]? = some y := by
  have := (List.getElem?_eq_some_iff.1 h).1
  simp [this]
section
variable {c : Cx} {o : Oper} {Kn : St → Prop} {K : Exit → St → Prop} {sl : List (Nat × Value)} {D : List Deferred}
structure After (W : Wy c.P) (fs : List Fk) (s : W.S) (vs : List Value) (R : List (Nat × Obj)) (i b : Nat) (cs : Array Value) (E : TypeId) (fr : Nat × Nat) (off : Nat) (Kn : List (Nat × Obj) → Prop) (Kp : List PanicEntry → List (Nat × Obj) → Prop) : Prop where
  ret : ∀ s' vs' Lp' cs', W.stps fs s vs = .ok s' vs' → W.mem s' Lp' → Upd cs cs' off vs' → (∀ q ∈ W.T0, q ∈ R.set i (b, .cells cs' E fr)) → Kn (Lp' ++ R.set i (b, .cells cs' E fr))
  pan : ∀ q a p s' Lp' cs', W.stps fs s vs = .bad q a → W.mem s' Lp' → cs'.size = cs.size → Kp (pan (flt p)) ((p, fltO q a) :: (Lp' ++ R.set i (b, .cells cs' E fr)))
variable {W : Wy c.P} {s : W.S} {Lp R : List (Nat × Obj)} {i b : Nat} {cs : Array Value} {E : TypeId} {fr : Nat × Nat} {off : Nat}
theorem OW_flatF {fs : List Fk} {vs : List Value} {f d : FuncId} {x : Operand} {args : Array Operand} {tys : Array TypeId} [hf : FCall c.P f] (hC : Flat W f W.recv fs) (hM : W.mem s Lp) (hT : ∀ q ∈ W.T0, q ∈ R) (hr : W.room s fs.length) (hR : R[i]? = some (b, .cells cs E fr)) (hv : Oks fs vs) (hl : Lies cs off vs) (hfr : Free fr off fs.length)
    (ho : o.op = .call { callee := .value x, args := args, argTypes := tys }) (hk : After W fs s vs R i b cs E fr off (fun L => Kn ⟨(d, .tuple #[]) :: sl, D, L⟩) (fun ch L => K (.panic ch) ⟨[], D, L⟩))
    (hdst : o.dst = some d := by exact rfl) (hd : Nat.blt d c.N = true := by exact rfl) (hx : ev sl x = some (.func (.func f) #[] #[]) := by exact rfl) (ha : evs sl args.toList = some [W.recv, .pointer (some ⟨b, off, none⟩)] := by exact rfl) : OW c o Kn K ⟨sl, D, Lp ++ R⟩ :=
  OW_callE ho (hC s Lp R i b cs E fr off vs hM hT hr hR hv hl hfr) (fun v L' ⟨h0, s', vs', Lp', cs', h1, h2, h3, h4, h5⟩ => by
    rw [h2, h0]; exact hk.ret s' vs' Lp' cs' h1 h3 h4 h5) (fun v L' ⟨q, a, p, s', Lp', cs', h1, h2, h3, h4, h5⟩ => by
    rw [h2, h3]; exact hk.pan q a p s' Lp' cs' h1 h4 h5) hdst hd hx ha
theorem OW_flatI {k : Fk} {x0 : Value} {f d : FuncId} {x : Operand} {name : String} {args : Array Operand} {tys : Array TypeId} (hm : methX c.P W.t name = some f) [hf : FCall c.P f] (hC : Flat W f W.v [k]) (hM : W.mem s Lp) (hT : ∀ q ∈ W.T0, q ∈ R) (hr : W.room s 1) (hR : R[i]? = some (b, .cells cs E fr)) (hv : k.ok x0) (hl : cs[off]? = some x0) (hfr : Free fr off 1)
    (ho : o.op = .call { callee := .invoke x name, args := args, argTypes := tys }) (hk : After W [k] s [x0] R i b cs E fr off (fun L => Kn ⟨(d, .tuple #[]) :: sl, D, L⟩) (fun ch L => K (.panic ch) ⟨[], D, L⟩))
    (hdst : o.dst = some d := by exact rfl) (hd : Nat.blt d c.N = true := by exact rfl) (hx : ev sl x = some (.iface W.t W.v) := by exact rfl) (ha : evs sl args.toList = some [.pointer (some ⟨b, off, none⟩)] := by exact rfl) : OW c o Kn K ⟨sl, D, Lp ++ R⟩ :=
  OW_enterE (σ := ⟨sl, D, Lp ++ R⟩) (by rw [ho]; intro cc h; cases h) (fun a w hH => invoke_run ho hx ha hm a w hH) (by rw [hdst]; exact hd) (hC s Lp R i b cs E fr off [x0] hM hT hr hR ⟨hv, trivial⟩ (fun j v hj => by
    cases j with
    | zero => simp at hj; subst hj; exact hl
    | succ j => simp at hj) hfr) (fun v L' ⟨h0, s', vs', Lp', cs', h1, h2, h3, h4, h5⟩ => by
    rw [hdst, h2, h0]; exact hk.ret s' vs' Lp' cs' h1 h3 h4 h5) (fun v L' ⟨q, a, p, s', Lp', cs', h1, h2, h3, h4, h5⟩ => by
    rw [h2, h3]; exact hk.pan q a p s' Lp' cs' h1 h4 h5)
theorem OW_locI {k : Fk} {x0 : Value} {f d m : FuncId} {x : Operand} {name : String} {args : Array Operand} {tys : Array TypeId} (hm : methX c.P W.t name = some f) [hf : FCall c.P f] (hC : Flat W f W.v [k]) (hM : W.mem s Lp) (hT : ∀ q ∈ W.T0, q ∈ R) (hr : W.room s 1) (hv : k.ok x0)
    (ho : o.op = .call { callee := .invoke x name, args := args, argTypes := tys })
    (hk : ∀ s' x' Lp', W.stp k s x0 = .ok s' x' → W.mem s' Lp' → Kn ⟨(d, .tuple #[]) :: sl, D, (m, .cells #[x'] E (0, 0)) :: (Lp' ++ R)⟩)
    (hp : ∀ q a p s' Lp', W.stp k s x0 = .bad q a → W.mem s' Lp' → K (.panic (pan (flt p))) ⟨[], D, (p, fltO q a) :: (Lp' ++ R)⟩)
    (hdst : o.dst = some d := by exact rfl) (hd : Nat.blt d c.N = true := by exact rfl) (hx : ev sl x = some (.iface W.t W.v) := by exact rfl) (ha : evs sl args.toList = some [.pointer (some ⟨m, 0, none⟩)] := by exact rfl) : OW c o Kn K ⟨sl, D, (m, .cells #[x0] E (0, 0)) :: (Lp ++ R)⟩ := by
  have hF := hC s Lp ((m, .cells #[x0] E (0, 0)) :: R) 0 m #[x0] E (0, 0) 0 [x0] hM (fun q hq => List.mem_cons_of_mem _ (hT q hq)) hr rfl ⟨hv, trivial⟩ (fun j v hj => by
    cases j with
    | zero => simp at hj; subst hj; rfl
    | succ j => simp at hj) (Free.zero _ _)
  have hF2 : FnE c.P f [W.v, .pointer (some ⟨m, 0, none⟩)] ((m, .cells #[x0] E (0, 0)) :: (Lp ++ R)) (fun v L' => v = .tuple #[] ∧ ∃ s' x' Lp', W.stp k s x0 = .ok s' x' ∧ L' = (m, .cells #[x'] E (0, 0)) :: (Lp' ++ R) ∧ W.mem s' Lp') (fun u L' => ∃ q a p s' Lp', W.stp k s x0 = .bad q a ∧ u = flt p ∧ L' = (p, fltO q a) :: (Lp' ++ R) ∧ W.mem s' Lp') := by
    refine FnE.perm (Rr1 := fun v L' => v = .tuple #[] ∧ FRet W (W.stps [k] s [x0]) ((m, .cells #[x0] E (0, 0)) :: R) 0 m #[x0] E (0, 0) 0 L') (Rp1 := fun u L' => ∃ q a p s' Lp', W.stp k s x0 = .bad q a ∧ u = flt p ∧ L' = (p, fltO q a) :: (Lp' ++ R) ∧ W.mem s' Lp') (hF.dropP ?_) List.perm_middle ?_ ?_
    · rintro u L' ⟨q, a, p, s', Lp', cs', h1, h2, rfl, h4, _⟩
      refine ⟨(p, fltO q a) :: (Lp' ++ R), .cons_cons _ (List.Sublist.append (.refl _) (.cons _ (.refl _))), q, a, p, s', Lp', ?_, h2, rfl, h4⟩
      simp only [Wy.stps] at h1
      cases e : W.stp k s x0 with
      | ok s1 v1 => rw [e] at h1; cases h1
      | bad c1 a1 => rw [e] at h1; cases h1; rfl
    · rintro v L' ⟨h0, s', vs', Lp', cs', h1, rfl, h3, h4, _⟩
      simp only [Wy.stps] at h1
      cases e : W.stp k s x0 with
      | bad c1 a1 => rw [e] at h1; cases h1
      | ok s1 v1 =>
        rw [e] at h1
        cases h1
        have hc : cs' = #[v1] := by
          apply Array.ext_getElem?
          intro q
          have hz := h4.size
          cases q with
          | zero => have := h4.lies 0 v1 rfl; simpa using this
          | succ q => rw [Array.getElem?_eq_none (by simp at hz; omega), Array.getElem?_eq_none (by simp)]
        subst hc
        exact ⟨_, List.perm_middle.symm, h0, _, _, Lp', rfl, rfl, h3⟩
    · rintro u L' h
      exact ⟨L', .refl _, h⟩
  refine OW_enterE (σ := ⟨sl, D, (m, .cells #[x0] E (0, 0)) :: (Lp ++ R)⟩) (by rw [ho]; intro cc h; cases h) (fun a w hH => invoke_run ho hx ha hm a w hH) (by rw [hdst]; exact hd) hF2 (fun v L' ⟨h0, s', x', Lp', h1, h2, h3⟩ => ?_) (fun u L' ⟨q, a, p, s', Lp', h1, h2, h3, h4⟩ => ?_)
  · rw [hdst, h0, h2]; exact hk s' x' Lp' h1 h3
  · rw [h2, h3]; exact hp q a p s' Lp' h1 h4
theorem Qt_nilCheck_m {L : List (Nat × Obj)} {x : Operand} {t f : Nat} {name : String} {v : Value} (ho : o.op = .nilCheck x) (hx : ev sl x = some (.func (.method name) #[.iface t v] #[]) := by exact rfl) (hm : methX c.P t name = some f := by with_reducible assumption) : Qt c sl L o (.func (.method name) #[.iface t v] #[]) :=
  Qt_of_run (by simp [ho]) (fun ρ hρ w _ => by
    have hpos : 0 < Made.depth := by decide
    obtain ⟨q, hq⟩ : ∃ q, c.P.types.size + Made.depth = q + 1 := ⟨c.P.types.size + Made.depth - 1, by omega⟩
    have hnr := nilAhead_run hm q v w
    simp [execOp, ho, hρ x _ hx, hq, hnr])
end
theorem Wy.keepT {P : Program} (W : Wy P) {R : List (Nat × Obj)} {i b : Nat} {cs : Array Value} {E : TypeId} {fr : Nat × Nat} {off : Nat} {k : Fk} {s s' : W.S} {x y : Value} (hT : ∀ q ∈ W.T0, q ∈ R) (hR : R[i]? = some (b, .cells cs E fr)) (hc : cs[off]? = some x) (hs : W.stp k s x = .ok s' y) : ∀ q ∈ W.T0, q ∈ R.set i (b, .cells (cs.setIfInBounds off y) E fr) := by
  rcases W.keeps with h | h
  · rw [h]; intro q hq; cases hq
  · rw [h _ _ _ _ _ hs]
    have e : cs.setIfInBounds off x = cs := by
      apply Array.ext_getElem?
      intro j
      by_cases ej : off = j
      · subst ej
        rw [Array.getElem?_setIfInBounds_self_of_lt (Array.getElem?_eq_some_iff.1 hc).1, hc]
      · rw [Array.getElem?_setIfInBounds_ne ej]
    rw [e, set_same hR]; exact hT
structure Meth (W : Wy Tryz.prog) where
  fw : FuncId
  fn : FuncId
  ft : FuncId
  fo : FuncId
  fh : FuncId
  fm : FuncId
  mw : methX Tryz.prog W.t "anabranch/codec.whole" = some fw
  mn : methX Tryz.prog W.t "anabranch/codec.number" = some fn
  mt : methX Tryz.prog W.t "anabranch/codec.truth" = some ft
  mo : methX Tryz.prog W.t "anabranch/codec.one" = some fo
  mh : methX Tryz.prog W.t "anabranch/codec.here" = some fh
  mm : methX Tryz.prog W.t "anabranch/codec.must" = some fm
  iw : FCall Tryz.prog fw
  jn : FCall Tryz.prog fn
  it : FCall Tryz.prog ft
  io : FCall Tryz.prog fo
  ih : FCall Tryz.prog fh
  im : FCall Tryz.prog fm
  cw : Flat W fw W.v [.ww]
  cn : Flat W fn W.v [.nn]
  ct : Flat W ft W.v [.tt]
  co : Flat W fo W.v [.bb]
  ch : ∀ (s : W.S) (Lp R : List (Nat × Obj)), W.mem s Lp → FnE Tryz.prog fh [W.v] (Lp ++ R) (fun v L' => v = .tuple #[] ∧ ∃ Lp', L' = Lp' ++ R ∧ W.mem (W.hr s) Lp') (fun _ _ => False)
  cm : ∀ (s : W.S) (Lp R : List (Nat × Obj)) (b : Bool) (code : Nat), W.mem s Lp → FnE Tryz.prog fm [W.v, .bool b, .int .i64 code] (Lp ++ R) (fun v L' => v = .tuple #[] ∧ L' = Lp ++ R ∧ W.mst b code s = none) (fun u L' => ∃ c a p, W.mst b code s = some (c, a) ∧ u = flt p ∧ L' = (p, fltO c a) :: (Lp ++ R))
end Go.Proofs.YtgimodceldoniaaGreatDoor
namespace Go.Proofs.YtgimodceldoniaaGreatDoor
abbrev recF : List Fk := [.kk, .ww, .ww, .bb, .tt, .tt]
abbrev opF : List Fk := [.ww, .ww, .ww, .ww]
abbrev accF : List Fk := [.ww, .ww, .nn, .ww, .ww]
abbrev entryF : List Fk := [.ww, .kk, .ww, .ww, .bb, .ww, .ww, .nn, .ww, .ww]
abbrev binF : List Fk := [.ww]
abbrev chF : List Fk := [.ww, .ww]
abbrev ctF : List Fk := [.ww, .ww, .ww, .ww, .ww, .ww, .ww]
abbrev khF : List Fk := [.ww, .ww, .tt]
structure MV where
  kind : Int
  ver : Int
  rc : List Value
  time : Int
  num : Int
  ch : List Value
  bins : List (List Value)
  ct : List Value
  kh : List Value
  ents : List (List Value)
def encCmd (ch : List Value) (bins : List (List Value)) (ct : List Value) : List UInt8 := encs chF ch ++ (encl binF bins ++ encs ctF ct)
def encChunk (kh : List Value) (ents : List (List Value)) : List UInt8 := encs khF kh ++ encl entryF ents
def MV.body (m : MV) : List UInt8 :=
  if m.kind = 0 then encs recF m.rc else if m.kind = 1 then enc (zz m.time) else if m.kind = 2 then enc (zz m.num) else if m.kind = 3 then encCmd m.ch m.bins m.ct else if m.kind = 4 then encChunk m.kh m.ents else []
def MV.enc (m : MV) : List UInt8 := Go.Proofs.YtgimodceldoniaaGreatDoor.enc (zz m.kind) ++ (Go.Proofs.YtgimodceldoniaaGreatDoor.enc (zz m.ver) ++ m.body)
def i64r (x : Int) : Prop := -9223372036854775808 ≤ x ∧ x < 9223372036854775808
structure MV.Ok (m : MV) : Prop where
  kind : i64r m.kind
  ver : i64r m.ver
  rc : Oks recF m.rc
  time : i64r m.time
  num : i64r m.num
  ch : Oks chF m.ch
  bins : ∀ vs ∈ m.bins, Oks binF vs
  ct : Oks ctF m.ct
  kh : Oks khF m.kh
  ents : ∀ vs ∈ m.ents, Oks entryF vs
abbrev zI : Value := .int .i64 0
def zRec : List Value := [.int .u32 0, zI, zI, .int .u8 0, .bool false, .bool false]
def MV.none : MV := ⟨0, 0, zRec, 0, 0, [zI, zI], [], [zI, zI, zI, zI, zI, zI, zI], [zI, zI, .bool false], []⟩
theorem i64r0 : i64r 0 := ⟨by omega, by omega⟩
theorem oks_zI : Fk.ok .ww zI := ⟨0, rfl, by omega, by omega⟩
theorem oks_zRec : Oks recF zRec := ⟨⟨0, rfl, by omega, by omega⟩, oks_zI, oks_zI, ⟨0, rfl⟩, ⟨false, rfl⟩, ⟨false, rfl⟩, trivial⟩
theorem MV.none_ok : MV.none.Ok := ⟨i64r0, i64r0, oks_zRec, i64r0, i64r0, ⟨oks_zI, oks_zI, trivial⟩, (fun _ h => (by cases h)), ⟨oks_zI, oks_zI, oks_zI, oks_zI, oks_zI, oks_zI, oks_zI, trivial⟩, ⟨oks_zI, oks_zI, ⟨false, rfl⟩, trivial⟩, (fun _ h => (by cases h))⟩
def MV.bare (m : MV) : MV :=
  if m.kind = 0 then { MV.none with kind := m.kind, ver := m.ver, rc := m.rc }
  else if m.kind = 1 then { MV.none with kind := m.kind, ver := m.ver, time := m.time }
  else if m.kind = 2 then { MV.none with kind := m.kind, ver := m.ver, num := m.num }
  else if m.kind = 3 then { MV.none with kind := m.kind, ver := m.ver, ch := m.ch, bins := m.bins, ct := m.ct }
  else { MV.none with kind := m.kind, ver := m.ver, kh := m.kh, ents := m.ents }
def prCmd (l : List UInt8) (a : Nat) : PR (List Value × List (List Value) × List Value) :=
  (prs l chF a).bind fun ch a1 => (prl l 8 binF a1).bind fun bins a2 => (prs l ctF a2).bind fun ct a3 => .ok (ch, bins, ct) a3
def prChunk (l : List UInt8) (a : Nat) : PR (List Value × List (List Value)) :=
  (prs l khF a).bind fun kh a1 => (prl l 64 entryF a1).bind fun ents a2 => .ok (kh, ents) a2
def prI (l : List UInt8) (a : Nat) : PR Int := if uCode l a = 0 then .ok (whole (uVal l a)) (uNext l a) else .bad (uCode l a) a
def prBody (l : List UInt8) (k v : Int) (a : Nat) : PR MV :=
  if k = 0 then (prs l recF a).bind fun vs b => .ok { MV.none with kind := k, ver := v, rc := vs } b
  else if k = 1 then (prI l a).bind fun x b => .ok { MV.none with kind := k, ver := v, time := x } b
  else if k = 2 then (prI l a).bind fun x b => .ok { MV.none with kind := k, ver := v, num := x } b
  else if k = 3 then (prCmd l a).bind fun x b => .ok { MV.none with kind := k, ver := v, ch := x.1, bins := x.2.1, ct := x.2.2 } b
  else (prChunk l a).bind fun x b => .ok { MV.none with kind := k, ver := v, kh := x.1, ents := x.2 } b
def prMsg (l : List UInt8) (a : Nat) : PR MV :=
  (prI l a).bind fun k a1 => if 0 ≤ k ∧ k ≤ 4 then (prI l a1).bind fun v a2 => prBody l k v a2 else .bad 6 a
theorem prI_went {l : List UInt8} {a b : Nat} {x : Int} (h : prI l a = .ok x b) : Went l (i64r x) (enc (zz x)) a b := by
  unfold prI at h
  split at h
  · rename_i hc
    cases h
    obtain ⟨h1, h2, h3⟩ := u_went hc
    exact ⟨whole_rng (val_lt _), h1, h2, by rw [zz_whole, h3]⟩
  · cases h
theorem prCmd_went {l : List UInt8} {a b : Nat} {x : List Value × List (List Value) × List Value} (ha : a ≤ l.length) (h : prCmd l a = .ok x b) : Went l (Oks chF x.1 ∧ (x.2.1.length ≤ 8 ∧ ∀ vs ∈ x.2.1, Oks binF vs) ∧ Oks ctF x.2.2) (encCmd x.1 x.2.1 x.2.2) a b := by
  obtain ⟨ch, a1, h1, h⟩ := PR.bind_ok h
  obtain ⟨bins, a2, h2, h⟩ := PR.bind_ok h
  obtain ⟨ct, a3, h3, h⟩ := PR.bind_ok h
  cases h
  obtain ⟨o1, l1, m1, e1⟩ := prs_went ha h1
  obtain ⟨o2, l2, m2, e2⟩ := prl_went h2
  obtain ⟨o3, l3, m3, e3⟩ := prs_went m2 h3
  refine ⟨⟨o1, o2, o3⟩, by omega, m3, ?_⟩
  unfold encCmd
  rw [e1, e2, e3, cut_app l2 l3, cut_app l1 (by omega)]
theorem prChunk_went {l : List UInt8} {a b : Nat} {x : List Value × List (List Value)} (ha : a ≤ l.length) (h : prChunk l a = .ok x b) : Went l (Oks khF x.1 ∧ (x.2.length ≤ 64 ∧ ∀ vs ∈ x.2, Oks entryF vs)) (encChunk x.1 x.2) a b := by
  obtain ⟨kh, a1, h1, h⟩ := PR.bind_ok h
  obtain ⟨ents, a2, h2, h⟩ := PR.bind_ok h
  cases h
  obtain ⟨o1, l1, m1, e1⟩ := prs_went ha h1
  obtain ⟨o2, l2, m2, e2⟩ := prl_went h2
  refine ⟨⟨o1, o2⟩, by omega, m2, ?_⟩
  unfold encChunk
  rw [e1, e2, cut_app l1 l2]
structure MV.Lim (m : MV) : Prop where
  ok : m.Ok
  k0 : 0 ≤ m.kind
  k4 : m.kind ≤ 4
  nb : m.bins.length ≤ 8
  ne : m.ents.length ≤ 64
  bare : m.bare = m
theorem prBody_went {l : List UInt8} {a b : Nat} {k v : Int} {m : MV} (ha : a ≤ l.length) (hk : i64r k) (hv : i64r v) (h0 : 0 ≤ k ∧ k ≤ 4) (h : prBody l k v a = .ok m b) : Went l (m.Lim ∧ m.kind = k ∧ m.ver = v) m.body a b := by
  have N := MV.none_ok
  unfold prBody at h
  split at h
  · rename_i e
    obtain ⟨x, a', h1, h2⟩ := PR.bind_ok h
    cases h2
    obtain ⟨o1, l1, l2, e1⟩ := prs_went ha h1
    refine ⟨⟨⟨⟨hk, hv, o1, N.time, N.num, N.ch, N.bins, N.ct, N.kh, N.ents⟩, h0.1, h0.2, by simp [MV.none], by simp [MV.none], ?_⟩, rfl, rfl⟩, l1, l2, ?_⟩
    · unfold MV.bare; rw [if_pos e]
    · unfold MV.body; rw [if_pos e]; exact e1
  · rename_i n0
    split at h
    · rename_i e
      obtain ⟨x, a', h1, h2⟩ := PR.bind_ok h
      cases h2
      obtain ⟨o1, l1, l2, e1⟩ := prI_went h1
      refine ⟨⟨⟨⟨hk, hv, N.rc, o1, N.num, N.ch, N.bins, N.ct, N.kh, N.ents⟩, h0.1, h0.2, by simp [MV.none], by simp [MV.none], ?_⟩, rfl, rfl⟩, l1, l2, ?_⟩
      · unfold MV.bare; rw [if_neg n0, if_pos e]
      · unfold MV.body; rw [if_neg n0, if_pos e]; exact e1
    · rename_i n1
      split at h
      · rename_i e
        obtain ⟨x, a', h1, h2⟩ := PR.bind_ok h
        cases h2
        obtain ⟨o1, l1, l2, e1⟩ := prI_went h1
        refine ⟨⟨⟨⟨hk, hv, N.rc, N.time, o1, N.ch, N.bins, N.ct, N.kh, N.ents⟩, h0.1, h0.2, by simp [MV.none], by simp [MV.none], ?_⟩, rfl, rfl⟩, l1, l2, ?_⟩
        · unfold MV.bare; rw [if_neg n0, if_neg n1, if_pos e]
        · unfold MV.body; rw [if_neg n0, if_neg n1, if_pos e]; exact e1
      · rename_i n2
        split at h
        · rename_i e
          obtain ⟨x, a', h1, h2⟩ := PR.bind_ok h
          cases h2
          obtain ⟨⟨o1, o2, o3⟩, l1, l2, e1⟩ := prCmd_went ha h1
          refine ⟨⟨⟨⟨hk, hv, N.rc, N.time, N.num, o1, o2.2, o3, N.kh, N.ents⟩, h0.1, h0.2, o2.1, by simp [MV.none], ?_⟩, rfl, rfl⟩, l1, l2, ?_⟩
          · unfold MV.bare; rw [if_neg n0, if_neg n1, if_neg n2, if_pos e]
          · unfold MV.body; rw [if_neg n0, if_neg n1, if_neg n2, if_pos e]; exact e1
        · rename_i n3
          obtain ⟨x, a', h1, h2⟩ := PR.bind_ok h
          cases h2
          obtain ⟨⟨o1, o2⟩, l1, l2, e1⟩ := prChunk_went ha h1
          refine ⟨⟨⟨⟨hk, hv, N.rc, N.time, N.num, N.ch, N.bins, N.ct, o1, o2.2⟩, h0.1, h0.2, by simp [MV.none], o2.1, ?_⟩, rfl, rfl⟩, l1, l2, ?_⟩
          · unfold MV.bare; rw [if_neg n0, if_neg n1, if_neg n2, if_neg n3]
          · have e4 : k = 4 := by omega
            unfold MV.body; rw [if_neg n0, if_neg n1, if_neg n2, if_neg n3, if_pos e4]; exact e1
theorem prMsg_went {l : List UInt8} {a b : Nat} {m : MV} (h : prMsg l a = .ok m b) : Went l m.Lim m.enc a b := by
  obtain ⟨k, a1, h1, h⟩ := PR.bind_ok h
  obtain ⟨ok, l1, m1, e1⟩ := prI_went h1
  split at h
  · rename_i hk
    obtain ⟨v, a2, h2, h⟩ := PR.bind_ok h
    obtain ⟨ov, l2, m2, e2⟩ := prI_went h2
    obtain ⟨⟨o3, ek, ev⟩, l3, m3, e3⟩ := prBody_went m2 ok ov hk h
    refine ⟨o3, by omega, m3, ?_⟩
    unfold MV.enc
    rw [ek, ev, e1, e2, e3, cut_app l2 l3, cut_app l1 (by omega)]
  · cases h
end Go.Proofs.YtgimodceldoniaaGreatDoor
namespace Go.Proofs.YtgimodceldoniaaGreatDoor
open Go.RowKit
attribute [local irreducible] Fn WC WL WR OW Qt YieldFn QW FnP FnD FnE
section
variable {W : Wy Tryz.prog} (M : Meth W)
include M
theorem small_flat : Flat W 44 W.recv [.ww] := by
  intro s Lp R i b cs E fr off vs hM hT hr hR hv hl hfr
  obtain ⟨x0, vs, rfl, hx, hv⟩ := hv.split
  obtain rfl := hv.nil
  have hc := hl.cons.1
  have hX := get_app (A := Lp) hR
  have iw := M.iw
  have m1 := M.mw
  have hz : off < cs.size := (Array.getElem?_eq_some_iff.1 hc).1
  have hx2 := hx
  obtain ⟨q, rfl, q0, q1⟩ := hx2
  refine FnE_enter Tryz.func44 rfl Tryz.ntmps44 rfl fun g => ?_
  unfold Wy.recv
  repeat (first | refine RQ ?_ | (refine WL_Q ?_; (first | refine QW_of (Qt_nilCheck_m rfl) ?_)) | (refine RE ?_; try intro _) | refine RC ?_ | refine WC_region ?_)
  rename_i mb
  refine WL_op rfl (OW_locI M.mw M.cw hM hT (W.room_le hr (Nat.le_refl _)) hx rfl ?_ ?_)
  · intro s' x' Lp' hs hM'
    obtain ⟨y, rfl, _⟩ := W.stp_ok hs hx
    have hX' : ((mb, Obj.cells #[Value.int .i64 y] 2 (0, 0)) :: (Lp' ++ R))[(Lp'.length + i) + 1]? = some _ := get_app (A := Lp') hR
    repeat (first | refine RQ ?_ | (refine WL_Q ?_; (first | refine QW_of (Qt_nilCheck_m rfl) ?_)) | (refine RE ?_; try intro _) | refine RC ?_ | refine WC_region ?_)
    refine WL_op rfl (OW_store1F (v := .int .i64 y) rfl _ hX' hz (hfr.sub 0 1 (Nat.le_refl _)) (WL_nil ?_))
    refine ⟨.tuple #[], _, Res0 rfl, .cons _ (.refl _), rfl, s', [.int .i64 y], Lp', cs.setIfInBounds off (.int .i64 y), W.stps1_ok hs, ?_, hM', Upd.one _ hz, W.keepT hT hR hc hs⟩
    exact set_app
  · intro c a p s' Lp' hs hM'
    exact ⟨_, rfl, c, a, p, s', Lp', cs, W.stps1_bad hs, rfl, by rw [set_same hR], hM', rfl⟩
theorem key_flat : Flat W 53 W.recv [.kk] := by
  intro s Lp R i b cs E fr off vs hM hT hr hR hv hl hfr
  obtain ⟨x0, vs, rfl, hx, hv⟩ := hv.split
  obtain rfl := hv.nil
  have hc := hl.cons.1
  have hz : off < cs.size := (Array.getElem?_eq_some_iff.1 hc).1
  obtain ⟨q, rfl, q0, q1⟩ := hx
  have hw : IntKind.u64.wrap q = q := wU64 q0 (by omega)
  refine FnE_enter Tryz.func53 rfl Tryz.ntmps53 rfl fun g => ?_
  unfold Wy.recv
  repeat (first | refine RQ ?_ | (refine WL_Q ?_; (first | refine QW_of (Qt_nilCheck_m rfl) ?_)) | (refine RE ?_; try intro _) | refine RC ?_ | refine WC_region ?_)
  have ih := M.ih
  refine WL_op rfl (OW_invE M.mh rfl (M.ch s Lp R hM) ?_ (fun _ _ h => h.elim))
  rintro _ _ ⟨rfl, Lp1, rfl, hM1⟩
  have hX := get_app (A := Lp1) hR
  repeat (first | refine RQ ?_ | (refine WL_Q ?_; (first | refine QW_of (Qt_nilCheck_m rfl) ?_)) | (refine RE ?_; try intro _) | refine RC ?_ | refine WG 0 ?_ | refine WG 1 ?_ | refine WG 3 ?_ | refine WG 4 ?_)
  rw [hw]
  repeat (first | refine RQ ?_ | (refine WL_Q ?_; (first | refine QW_of (Qt_nilCheck_m rfl) ?_)) | (refine RE ?_; try intro _) | refine RC ?_ | refine WC_region ?_)
  rename_i mb
  have jn := M.jn
  refine WL_op rfl (OW_locI M.mn M.cn hM1 hT (W.hr_room hr) ⟨q, rfl, q0, by omega⟩ rfl ?_ ?_)
  · intro s' x' Lp' hs hM'
    obtain ⟨y, rfl, y0, y1⟩ := W.stp_ok hs ⟨q, rfl, q0, by omega⟩
    repeat (first | refine RQ ?_ | (refine WL_Q ?_; (first | refine QW_of (Qt_nilCheck_m rfl) ?_)) | (refine RE ?_; try intro _) | refine RC ?_ | refine WC_region ?_)
    have im := M.im
    have hF := (M.cm s' Lp' ((mb, Obj.cells #[Value.int .u64 y] 23 (0, 0)) :: R) (decide (y ≤ 4294967295)) 4 hM')
    refine WL_op rfl (OW_invE M.mm rfl ((hF.dropP (Rp' := fun u L' => ∃ c a p, W.mst (decide (y ≤ 4294967295)) 4 s' = some (c, a) ∧ u = flt p ∧ L' = (p, fltO c a) :: (Lp' ++ R)) (fun u L' ⟨c, a, p, h1, h2, h3⟩ => ⟨(p, fltO c a) :: (Lp' ++ R), by rw [h3]; exact .cons_cons _ (.append (.refl _) (.cons _ (.refl _))), c, a, p, h1, h2, rfl⟩)).perm List.perm_middle (fun v L' h => ⟨_, .refl _, h⟩) (fun v L' h => ⟨_, .refl _, h⟩)) ?_ ?_)
    · rintro _ _ ⟨rfl, rfl, hm⟩
      obtain ⟨hk, y2⟩ := W.key_ok q0 q1 hs hm
      have hX0 : (Lp' ++ ((mb, Obj.cells #[Value.int .u64 y] 23 (0, 0)) :: R))[Lp'.length]? = some _ := get_app (A := Lp') (i := 0) rfl
      have hX' := get_app (A := Lp') (R := (mb, Obj.cells #[Value.int .u64 y] 23 (0, 0)) :: R) (i := i + 1) hR
      have hw2 : IntKind.u32.wrap y = y := by
        simp only [IntKind.wrap, IntKind.bits, IntKind.signed]
        simp; omega
      repeat (first | refine RQ ?_ | (refine WL_Q ?_; (first | refine QW_of (Qt_nilCheck_m rfl) ?_)) | (refine RE ?_; try intro _) | refine RC ?_ | refine WC_region ?_)
      rw [hw2]
      refine WL_op rfl (OW_store1F (v := .int .u32 y) rfl _ hX' hz (hfr.sub 0 1 (Nat.le_refl _)) (WL_nil ?_))
      refine ⟨.tuple #[], Lp' ++ R.set i (b, .cells (cs.setIfInBounds off (.int .u32 y)) E fr), Res0 rfl, ?_, rfl, s', [.int .u32 y], Lp', cs.setIfInBounds off (.int .u32 y), W.stps1_ok hk, rfl, hM', Upd.one _ hz, W.keepT hT hR hc hk⟩
      rw [set_app]
      exact .append (.refl _) (.cons _ (.refl _))
    · rintro _ _ ⟨c, a, p, hm, rfl, rfl⟩
      exact ⟨_, rfl, c, a, p, s', Lp', cs, W.stps1_bad (W.key_must hs hm), rfl, by rw [set_same hR], hM', rfl⟩
  · intro c a p s' Lp' hs hM'
    exact ⟨_, rfl, c, a, p, s', Lp', cs, W.stps1_bad (W.key_bad hs), rfl, by rw [set_same hR], hM', rfl⟩
set_option maxHeartbeats 4000000 in
theorem rec_flat : Flat W 45 W.recv recF := by
  intro s Lp R i b cs E fr off vs hM0 hT0 hr0 hR hv hl hfr
  obtain ⟨x0, vs, rfl, hx0, hv⟩ := hv.split
  obtain ⟨x1, vs, rfl, hx1, hv⟩ := hv.split
  obtain ⟨x2, vs, rfl, hx2, hv⟩ := hv.split
  obtain ⟨x3, vs, rfl, hx3, hv⟩ := hv.split
  obtain ⟨x4, vs, rfl, hx4, hv⟩ := hv.split
  obtain ⟨x5, vs, rfl, hx5, hv⟩ := hv.split
  obtain rfl := hv.nil
  have ho0 : Oks [.kk] [x0] := ⟨hx0, trivial⟩
  have g0 : Lies cs (off + 0) [x0] := hl.cut 0 1
  have ho1 : Oks [.ww] [x1] := ⟨hx1, trivial⟩
  have g1 : Lies cs (off + 1) [x1] := hl.cut 1 1
  have ho2 : Oks [.ww] [x2] := ⟨hx2, trivial⟩
  have g2 : Lies cs (off + 2) [x2] := hl.cut 2 1
  have ho3 : Oks [.bb] [x3] := ⟨hx3, trivial⟩
  have g3 : Lies cs (off + 3) [x3] := hl.cut 3 1
  have ho4 : Oks [.tt] [x4] := ⟨hx4, trivial⟩
  have g4 : Lies cs (off + 4) [x4] := hl.cut 4 1
  have ho5 : Oks [.tt] [x5] := ⟨hx5, trivial⟩
  have g5 : Lies cs (off + 5) [x5] := hl.cut 5 1
  have qw := M.mw
  have pw := M.iw
  have qt := M.mt
  have pt := M.it
  have qb := M.mo
  have pb := M.io
  refine FnE_enter Tryz.func45 rfl Tryz.ntmps45 rfl fun g => ?_
  unfold Wy.recv
  have U0 : Upd cs cs off [] := Upd.refl_of (fun j v h => by simp at h)
  have A0 : W.stps [] s [] = .ok s [] := rfl
  have O0 : Oks [] [] := trivial
  have L0 : ([] : List Value).length = 0 := rfl
  repeat (first | refine RQ ?_ | (refine WL_Q ?_; (first | refine QW_of (Qt_nilCheck_m rfl) ?_)) | refine RC ?_ | refine WG 0 ?_)
  have l0 : Lies cs (off + 0) [x0] := fun q v h => by
    rw [U0.rest _ (.inr (by rw [L0]; omega))]
    exact g0 q v h
  refine WL_op rfl ?_
  refine (OW_flatF (key_flat M) hM0 hT0 (W.room_le hr0 (by decide)) hR ho0 l0 (hfr.sub 0 1 (by decide)) rfl ⟨?_, ?_⟩)
  rotate_left
  · intro c a p s' Lp' cs' hs hM' hz
    exact ⟨_, rfl, c, a, p, s', Lp', cs', W.bad_cat [.ww, .ww, .bb, .tt, .tt] [x1, x2, x3, x4, x5] (W.cat_bad A0 O0 hs) (Oks.app O0 ho0), rfl, rfl, hM', hz.trans U0.size⟩
  intro s1 us0 Lp1 cs1 hs0 hM1 hu0 hT1
  have n0 : us0.length = 1 := W.stps_len hs0 ho0
  have U1 := U0.app hu0 (by rw [L0])
  have L1 := (show ([] ++ us0).length = 1 by rw [List.length_append, L0, n0])
  have A1 := W.cat_ok A0 O0 hs0
  have O1 := Oks.app O0 ho0
  have hr1 := W.stps_room (n := 5) hs0 ho0 (W.room_le hr0 (by decide))
  have R1 := get_set_self hR (b, Obj.cells cs1 E fr)
  repeat (first | refine RQ ?_ | (refine WL_Q ?_; (first | refine QW_of (Qt_nilCheck_m rfl) ?_)) | refine RC ?_ | refine WG 0 ?_)
  refine WC_draw_sub (id := 1) 8 (Cs [0,1,2,3,4,5,6] <| .must 7 <| .done) mixed (by kernel_rfl) (List.nil_sublist _) ?_
  repeat (first | refine RQr ?_ | (refine RX ?_; (first | refine QW_of (Qt_nilCheck_m rfl) ?_)) | refine RC ?_ | refine RU ?_ | refine WC_draw_all (id := 1) 8 (Cs [0,1,2,3,4,5,6] <| .must 7 <| .done) mixed (by kernel_rfl) ?_)
  have l1 : Lies cs1 (off + 1) [x1] := fun q v h => by
    rw [U1.rest _ (.inr (by rw [L1]; omega))]
    exact g1 q v h
  refine WR_op rfl rfl ?_
  refine (OW_flatI M.mw M.cw hM1 hT1 (W.room_le hr1 (by decide)) R1 hx1 (l1 0 _ rfl) (hfr.sub 1 1 (by decide)) rfl ⟨?_, ?_⟩)
  rotate_left
  · intro c a p s' Lp' cs' hs hM' hz
    exact ⟨_, rfl, c, a, p, s', Lp', cs', W.bad_cat [.ww, .bb, .tt, .tt] [x2, x3, x4, x5] (W.cat_bad A1 O1 hs) (Oks.app O1 ho1), rfl, by rw [List.set_set], hM', hz.trans U1.size⟩
  intro s2 us1 Lp2 cs2 hs1 hM2 hu1 hT2
  have n1 : us1.length = 1 := W.stps_len hs1 ho1
  have U2 := U1.app hu1 (by rw [L1])
  have L2 := (show (([] ++ us0) ++ us1).length = 2 by rw [List.length_append, L1, n1])
  have A2 := W.cat_ok A1 O1 hs1
  have O2 := Oks.app O1 ho1
  have hr2 := W.stps_room (n := 4) hs1 ho1 (W.room_le hr1 (by decide))
  rw [List.set_set] at hT2
  rw [List.set_set]
  have R2 := get_set_self hR (b, Obj.cells cs2 E fr)
  refine ⟨(fun q hq => (by cases hq)), ?_⟩
  repeat (first | refine RQr ?_ | (refine RX ?_; (first | refine QW_of (Qt_nilCheck_m rfl) ?_)) | refine RC ?_ | refine RU ?_ | refine WC_draw_all (id := 1) 8 (Cs [0,1,2,3,4,5,6] <| .must 7 <| .done) mixed (by kernel_rfl) ?_)
  refine WC_draw_sub (id := 2) 8 (Cs [0,1,2,3,4,5,6] <| .must 7 <| .done) mixed (by kernel_rfl) (List.nil_sublist _) ?_
  repeat (first | refine RQr ?_ | (refine RX ?_; (first | refine QW_of (Qt_nilCheck_m rfl) ?_)) | refine RC ?_ | refine RU ?_ | refine WC_draw_all (id := 2) 8 (Cs [0,1,2,3,4,5,6] <| .must 7 <| .done) mixed (by kernel_rfl) ?_)
  have l2 : Lies cs2 (off + 2) [x2] := fun q v h => by
    rw [U2.rest _ (.inr (by rw [L2]; omega))]
    exact g2 q v h
  refine WR_op rfl rfl ?_
  refine (OW_flatI M.mw M.cw hM2 hT2 (W.room_le hr2 (by decide)) R2 hx2 (l2 0 _ rfl) (hfr.sub 2 1 (by decide)) rfl ⟨?_, ?_⟩)
  rotate_left
  · intro c a p s' Lp' cs' hs hM' hz
    exact ⟨_, rfl, c, a, p, s', Lp', cs', W.bad_cat [.bb, .tt, .tt] [x3, x4, x5] (W.cat_bad A2 O2 hs) (Oks.app O2 ho2), rfl, by rw [List.set_set], hM', hz.trans U2.size⟩
  intro s3 us2 Lp3 cs3 hs2 hM3 hu2 hT3
  have n2 : us2.length = 1 := W.stps_len hs2 ho2
  have U3 := U2.app hu2 (by rw [L2])
  have L3 := (show ((([] ++ us0) ++ us1) ++ us2).length = 3 by rw [List.length_append, L2, n2])
  have A3 := W.cat_ok A2 O2 hs2
  have O3 := Oks.app O2 ho2
  have hr3 := W.stps_room (n := 3) hs2 ho2 (W.room_le hr2 (by decide))
  rw [List.set_set] at hT3
  rw [List.set_set]
  have R3 := get_set_self hR (b, Obj.cells cs3 E fr)
  refine ⟨(fun q hq => (by cases hq)), ?_⟩
  repeat (first | refine RQr ?_ | (refine RX ?_; (first | refine QW_of (Qt_nilCheck_m rfl) ?_)) | refine RC ?_ | refine RU ?_ | refine WC_draw_all (id := 2) 8 (Cs [0,1,2,3,4,5,6] <| .must 7 <| .done) mixed (by kernel_rfl) ?_)
  refine WC_draw_sub (id := 3) 8 (Cs [0,1,2,3,4,5,6] <| .must 7 <| .done) mixed (by kernel_rfl) (List.nil_sublist _) ?_
  repeat (first | refine RQr ?_ | (refine RX ?_; (first | refine QW_of (Qt_nilCheck_m rfl) ?_)) | refine RC ?_ | refine RU ?_ | refine WC_draw_all (id := 3) 8 (Cs [0,1,2,3,4,5,6] <| .must 7 <| .done) mixed (by kernel_rfl) ?_)
  have l3 : Lies cs3 (off + 3) [x3] := fun q v h => by
    rw [U3.rest _ (.inr (by rw [L3]; omega))]
    exact g3 q v h
  refine WR_op rfl rfl ?_
  refine (OW_flatI M.mo M.co hM3 hT3 (W.room_le hr3 (by decide)) R3 hx3 (l3 0 _ rfl) (hfr.sub 3 1 (by decide)) rfl ⟨?_, ?_⟩)
  rotate_left
  · intro c a p s' Lp' cs' hs hM' hz
    exact ⟨_, rfl, c, a, p, s', Lp', cs', W.bad_cat [.tt, .tt] [x4, x5] (W.cat_bad A3 O3 hs) (Oks.app O3 ho3), rfl, by rw [List.set_set], hM', hz.trans U3.size⟩
  intro s4 us3 Lp4 cs4 hs3 hM4 hu3 hT4
  have n3 : us3.length = 1 := W.stps_len hs3 ho3
  have U4 := U3.app hu3 (by rw [L3])
  have L4 := (show (((([] ++ us0) ++ us1) ++ us2) ++ us3).length = 4 by rw [List.length_append, L3, n3])
  have A4 := W.cat_ok A3 O3 hs3
  have O4 := Oks.app O3 ho3
  have hr4 := W.stps_room (n := 2) hs3 ho3 (W.room_le hr3 (by decide))
  rw [List.set_set] at hT4
  rw [List.set_set]
  have R4 := get_set_self hR (b, Obj.cells cs4 E fr)
  refine ⟨(fun q hq => (by cases hq)), ?_⟩
  repeat (first | refine RQr ?_ | (refine RX ?_; (first | refine QW_of (Qt_nilCheck_m rfl) ?_)) | refine RC ?_ | refine RU ?_ | refine WC_draw_all (id := 3) 8 (Cs [0,1,2,3,4,5,6] <| .must 7 <| .done) mixed (by kernel_rfl) ?_)
  refine WC_draw_sub (id := 4) 8 (Cs [0,1,2,3,4,5,6] <| .must 7 <| .done) mixed (by kernel_rfl) (List.nil_sublist _) ?_
  repeat (first | refine RQr ?_ | (refine RX ?_; (first | refine QW_of (Qt_nilCheck_m rfl) ?_)) | refine RC ?_ | refine RU ?_ | refine WC_draw_all (id := 4) 8 (Cs [0,1,2,3,4,5,6] <| .must 7 <| .done) mixed (by kernel_rfl) ?_)
  have l4 : Lies cs4 (off + 4) [x4] := fun q v h => by
    rw [U4.rest _ (.inr (by rw [L4]; omega))]
    exact g4 q v h
  refine WR_op rfl rfl ?_
  refine (OW_flatI M.mt M.ct hM4 hT4 (W.room_le hr4 (by decide)) R4 hx4 (l4 0 _ rfl) (hfr.sub 4 1 (by decide)) rfl ⟨?_, ?_⟩)
  rotate_left
  · intro c a p s' Lp' cs' hs hM' hz
    exact ⟨_, rfl, c, a, p, s', Lp', cs', W.bad_cat [.tt] [x5] (W.cat_bad A4 O4 hs) (Oks.app O4 ho4), rfl, by rw [List.set_set], hM', hz.trans U4.size⟩
  intro s5 us4 Lp5 cs5 hs4 hM5 hu4 hT5
  have n4 : us4.length = 1 := W.stps_len hs4 ho4
  have U5 := U4.app hu4 (by rw [L4])
  have L5 := (show ((((([] ++ us0) ++ us1) ++ us2) ++ us3) ++ us4).length = 5 by rw [List.length_append, L4, n4])
  have A5 := W.cat_ok A4 O4 hs4
  have O5 := Oks.app O4 ho4
  have hr5 := W.stps_room (n := 1) hs4 ho4 (W.room_le hr4 (by decide))
  rw [List.set_set] at hT5
  rw [List.set_set]
  have R5 := get_set_self hR (b, Obj.cells cs5 E fr)
  refine ⟨(fun q hq => (by cases hq)), ?_⟩
  repeat (first | refine RQr ?_ | (refine RX ?_; (first | refine QW_of (Qt_nilCheck_m rfl) ?_)) | refine RC ?_ | refine RU ?_ | refine WC_draw_all (id := 4) 8 (Cs [0,1,2,3,4,5,6] <| .must 7 <| .done) mixed (by kernel_rfl) ?_)
  refine WC_draw_sub (id := 5) 8 (Cs [0,1,2,3,4,5,6] <| .must 7 <| .done) mixed (by kernel_rfl) (List.nil_sublist _) ?_
  repeat (first | refine RQr ?_ | (refine RX ?_; (first | refine QW_of (Qt_nilCheck_m rfl) ?_)) | refine RC ?_ | refine RU ?_ | refine WC_draw_all (id := 5) 8 (Cs [0,1,2,3,4,5,6] <| .must 7 <| .done) mixed (by kernel_rfl) ?_)
  have l5 : Lies cs5 (off + 5) [x5] := fun q v h => by
    rw [U5.rest _ (.inr (by rw [L5]; omega))]
    exact g5 q v h
  refine WR_op rfl rfl ?_
  refine (OW_flatI M.mt M.ct hM5 hT5 (W.room_le hr5 (by decide)) R5 hx5 (l5 0 _ rfl) (hfr.sub 5 1 (by decide)) rfl ⟨?_, ?_⟩)
  rotate_left
  · intro c a p s' Lp' cs' hs hM' hz
    exact ⟨_, rfl, c, a, p, s', Lp', cs', W.bad_cat [] [] (W.cat_bad A5 O5 hs) (Oks.app O5 ho5), rfl, by rw [List.set_set], hM', hz.trans U5.size⟩
  intro s6 us5 Lp6 cs6 hs5 hM6 hu5 hT6
  have n5 : us5.length = 1 := W.stps_len hs5 ho5
  have U6 := U5.app hu5 (by rw [L5])
  have L6 := (show (((((([] ++ us0) ++ us1) ++ us2) ++ us3) ++ us4) ++ us5).length = 6 by rw [List.length_append, L5, n5])
  have A6 := W.cat_ok A5 O5 hs5
  have O6 := Oks.app O5 ho5
  have hr6 := W.stps_room (n := 0) hs5 ho5 (W.room_le hr5 (by decide))
  rw [List.set_set] at hT6
  rw [List.set_set]
  have R6 := get_set_self hR (b, Obj.cells cs6 E fr)
  refine ⟨(fun q hq => (by cases hq)), ?_⟩
  repeat (first | refine RQr ?_ | (refine RX ?_; (first | refine QW_of (Qt_nilCheck_m rfl) ?_)) | refine RC ?_ | refine RU ?_ | refine WC_draw_all (id := 5) 8 (Cs [0,1,2,3,4,5,6] <| .must 7 <| .done) mixed (by kernel_rfl) ?_)
  exact ⟨.tuple #[], _, Res0 rfl, .refl _, rfl, s6, _, Lp6, cs6, A6, rfl, hM6, U6, hT6⟩
set_option maxHeartbeats 4000000 in
theorem op_flat : Flat W 55 W.recv opF := by
  intro s Lp R i b cs E fr off vs hM0 hT0 hr0 hR hv hl hfr
  obtain ⟨x0, vs, rfl, hx0, hv⟩ := hv.split
  obtain ⟨x1, vs, rfl, hx1, hv⟩ := hv.split
  obtain ⟨x2, vs, rfl, hx2, hv⟩ := hv.split
  obtain ⟨x3, vs, rfl, hx3, hv⟩ := hv.split
  obtain rfl := hv.nil
  have ho0 : Oks [.ww] [x0] := ⟨hx0, trivial⟩
  have g0 : Lies cs (off + 0) [x0] := hl.cut 0 1
  have ho1 : Oks [.ww] [x1] := ⟨hx1, trivial⟩
  have g1 : Lies cs (off + 1) [x1] := hl.cut 1 1
  have ho2 : Oks [.ww] [x2] := ⟨hx2, trivial⟩
  have g2 : Lies cs (off + 2) [x2] := hl.cut 2 1
  have ho3 : Oks [.ww] [x3] := ⟨hx3, trivial⟩
  have g3 : Lies cs (off + 3) [x3] := hl.cut 3 1
  have qw := M.mw
  have pw := M.iw
  refine FnE_enter Tryz.func55 rfl Tryz.ntmps55 rfl fun g => ?_
  unfold Wy.recv
  have U0 : Upd cs cs off [] := Upd.refl_of (fun j v h => by simp at h)
  have A0 : W.stps [] s [] = .ok s [] := rfl
  have O0 : Oks [] [] := trivial
  have L0 : ([] : List Value).length = 0 := rfl
  repeat (first | refine RQ ?_ | (refine WL_Q ?_; (first | refine QW_of (Qt_nilCheck_m rfl) ?_)) | refine RC ?_ | refine WG 0 ?_)
  have l0 : Lies cs (off + 0) [x0] := fun q v h => by
    rw [U0.rest _ (.inr (by rw [L0]; omega))]
    exact g0 q v h
  refine WL_op rfl ?_
  refine (OW_flatF (small_flat M) hM0 hT0 (W.room_le hr0 (by decide)) hR ho0 l0 (hfr.sub 0 1 (by decide)) rfl ⟨?_, ?_⟩)
  rotate_left
  · intro c a p s' Lp' cs' hs hM' hz
    exact ⟨_, rfl, c, a, p, s', Lp', cs', W.bad_cat [.ww, .ww, .ww] [x1, x2, x3] (W.cat_bad A0 O0 hs) (Oks.app O0 ho0), rfl, rfl, hM', hz.trans U0.size⟩
  intro s1 us0 Lp1 cs1 hs0 hM1 hu0 hT1
  have n0 : us0.length = 1 := W.stps_len hs0 ho0
  have U1 := U0.app hu0 (by rw [L0])
  have L1 := (show ([] ++ us0).length = 1 by rw [List.length_append, L0, n0])
  have A1 := W.cat_ok A0 O0 hs0
  have O1 := Oks.app O0 ho0
  have hr1 := W.stps_room (n := 3) hs0 ho0 (W.room_le hr0 (by decide))
  have R1 := get_set_self hR (b, Obj.cells cs1 E fr)
  repeat (first | refine RQ ?_ | (refine WL_Q ?_; (first | refine QW_of (Qt_nilCheck_m rfl) ?_)) | refine RC ?_ | refine WG 0 ?_)
  refine WC_draw_sub (id := 1) 8 (Cs [0,1,2,3,4,5,6] <| .must 7 <| .done) mixed (by kernel_rfl) (List.nil_sublist _) ?_
  repeat (first | refine RQr ?_ | (refine RX ?_; (first | refine QW_of (Qt_nilCheck_m rfl) ?_)) | refine RC ?_ | refine RU ?_ | refine WC_draw_all (id := 1) 8 (Cs [0,1,2,3,4,5,6] <| .must 7 <| .done) mixed (by kernel_rfl) ?_)
  have l1 : Lies cs1 (off + 1) [x1] := fun q v h => by
    rw [U1.rest _ (.inr (by rw [L1]; omega))]
    exact g1 q v h
  refine WR_op rfl rfl ?_
  refine (OW_flatI M.mw M.cw hM1 hT1 (W.room_le hr1 (by decide)) R1 hx1 (l1 0 _ rfl) (hfr.sub 1 1 (by decide)) rfl ⟨?_, ?_⟩)
  rotate_left
  · intro c a p s' Lp' cs' hs hM' hz
    exact ⟨_, rfl, c, a, p, s', Lp', cs', W.bad_cat [.ww, .ww] [x2, x3] (W.cat_bad A1 O1 hs) (Oks.app O1 ho1), rfl, by rw [List.set_set], hM', hz.trans U1.size⟩
  intro s2 us1 Lp2 cs2 hs1 hM2 hu1 hT2
  have n1 : us1.length = 1 := W.stps_len hs1 ho1
  have U2 := U1.app hu1 (by rw [L1])
  have L2 := (show (([] ++ us0) ++ us1).length = 2 by rw [List.length_append, L1, n1])
  have A2 := W.cat_ok A1 O1 hs1
  have O2 := Oks.app O1 ho1
  have hr2 := W.stps_room (n := 2) hs1 ho1 (W.room_le hr1 (by decide))
  rw [List.set_set] at hT2
  rw [List.set_set]
  have R2 := get_set_self hR (b, Obj.cells cs2 E fr)
  refine ⟨(fun q hq => (by cases hq)), ?_⟩
  repeat (first | refine RQr ?_ | (refine RX ?_; (first | refine QW_of (Qt_nilCheck_m rfl) ?_)) | refine RC ?_ | refine RU ?_ | refine WC_draw_all (id := 1) 8 (Cs [0,1,2,3,4,5,6] <| .must 7 <| .done) mixed (by kernel_rfl) ?_)
  refine WC_draw_sub (id := 2) 8 (Cs [0,1,2,3,4,5,6] <| .must 7 <| .done) mixed (by kernel_rfl) (List.nil_sublist _) ?_
  repeat (first | refine RQr ?_ | (refine RX ?_; (first | refine QW_of (Qt_nilCheck_m rfl) ?_)) | refine RC ?_ | refine RU ?_ | refine WC_draw_all (id := 2) 8 (Cs [0,1,2,3,4,5,6] <| .must 7 <| .done) mixed (by kernel_rfl) ?_)
  have l2 : Lies cs2 (off + 2) [x2] := fun q v h => by
    rw [U2.rest _ (.inr (by rw [L2]; omega))]
    exact g2 q v h
  refine WR_op rfl rfl ?_
  refine (OW_flatI M.mw M.cw hM2 hT2 (W.room_le hr2 (by decide)) R2 hx2 (l2 0 _ rfl) (hfr.sub 2 1 (by decide)) rfl ⟨?_, ?_⟩)
  rotate_left
  · intro c a p s' Lp' cs' hs hM' hz
    exact ⟨_, rfl, c, a, p, s', Lp', cs', W.bad_cat [.ww] [x3] (W.cat_bad A2 O2 hs) (Oks.app O2 ho2), rfl, by rw [List.set_set], hM', hz.trans U2.size⟩
  intro s3 us2 Lp3 cs3 hs2 hM3 hu2 hT3
  have n2 : us2.length = 1 := W.stps_len hs2 ho2
  have U3 := U2.app hu2 (by rw [L2])
  have L3 := (show ((([] ++ us0) ++ us1) ++ us2).length = 3 by rw [List.length_append, L2, n2])
  have A3 := W.cat_ok A2 O2 hs2
  have O3 := Oks.app O2 ho2
  have hr3 := W.stps_room (n := 1) hs2 ho2 (W.room_le hr2 (by decide))
  rw [List.set_set] at hT3
  rw [List.set_set]
  have R3 := get_set_self hR (b, Obj.cells cs3 E fr)
  refine ⟨(fun q hq => (by cases hq)), ?_⟩
  repeat (first | refine RQr ?_ | (refine RX ?_; (first | refine QW_of (Qt_nilCheck_m rfl) ?_)) | refine RC ?_ | refine RU ?_ | refine WC_draw_all (id := 2) 8 (Cs [0,1,2,3,4,5,6] <| .must 7 <| .done) mixed (by kernel_rfl) ?_)
  repeat (first | refine RQ ?_ | (refine WL_Q ?_; (first | refine QW_of (Qt_nilCheck_m rfl) ?_)) | refine RC ?_ | refine WG 3 ?_)
  have l3 : Lies cs3 (off + 3) [x3] := fun q v h => by
    rw [U3.rest _ (.inr (by rw [L3]; omega))]
    exact g3 q v h
  refine WL_op rfl ?_
  refine (OW_flatF (small_flat M) hM3 hT3 (W.room_le hr3 (by decide)) R3 ho3 l3 (hfr.sub 3 1 (by decide)) rfl ⟨?_, ?_⟩)
  rotate_left
  · intro c a p s' Lp' cs' hs hM' hz
    exact ⟨_, rfl, c, a, p, s', Lp', cs', W.bad_cat [] [] (W.cat_bad A3 O3 hs) (Oks.app O3 ho3), rfl, by rw [List.set_set], hM', hz.trans U3.size⟩
  intro s4 us3 Lp4 cs4 hs3 hM4 hu3 hT4
  have n3 : us3.length = 1 := W.stps_len hs3 ho3
  have U4 := U3.app hu3 (by rw [L3])
  have L4 := (show (((([] ++ us0) ++ us1) ++ us2) ++ us3).length = 4 by rw [List.length_append, L3, n3])
  have A4 := W.cat_ok A3 O3 hs3
  have O4 := Oks.app O3 ho3
  have hr4 := W.stps_room (n := 0) hs3 ho3 (W.room_le hr3 (by decide))
  rw [List.set_set] at hT4
  rw [List.set_set]
  have R4 := get_set_self hR (b, Obj.cells cs4 E fr)
  repeat (first | refine RQ ?_ | (refine WL_Q ?_; (first | refine QW_of (Qt_nilCheck_m rfl) ?_)) | refine RC ?_ | refine WG 3 ?_)
  exact ⟨.tuple #[], _, Res0 rfl, .refl _, rfl, s4, _, Lp4, cs4, A4, rfl, hM4, U4, hT4⟩
set_option maxHeartbeats 4000000 in
theorem acc_flat : Flat W 64 W.recv accF := by
  intro s Lp R i b cs E fr off vs hM0 hT0 hr0 hR hv hl hfr
  obtain ⟨x0, vs, rfl, hx0, hv⟩ := hv.split
  obtain ⟨x1, vs, rfl, hx1, hv⟩ := hv.split
  obtain ⟨x2, vs, rfl, hx2, hv⟩ := hv.split
  obtain ⟨x3, vs, rfl, hx3, hv⟩ := hv.split
  obtain ⟨x4, vs, rfl, hx4, hv⟩ := hv.split
  obtain rfl := hv.nil
  have ho0 : Oks [.ww] [x0] := ⟨hx0, trivial⟩
  have g0 : Lies cs (off + 0) [x0] := hl.cut 0 1
  have ho1 : Oks [.ww] [x1] := ⟨hx1, trivial⟩
  have g1 : Lies cs (off + 1) [x1] := hl.cut 1 1
  have ho2 : Oks [.nn] [x2] := ⟨hx2, trivial⟩
  have g2 : Lies cs (off + 2) [x2] := hl.cut 2 1
  have ho3 : Oks [.ww] [x3] := ⟨hx3, trivial⟩
  have g3 : Lies cs (off + 3) [x3] := hl.cut 3 1
  have ho4 : Oks [.ww] [x4] := ⟨hx4, trivial⟩
  have g4 : Lies cs (off + 4) [x4] := hl.cut 4 1
  have qw := M.mw
  have pw := M.iw
  have qn := M.mn
  have pn := M.jn
  refine FnE_enter Tryz.func64 rfl Tryz.ntmps64 rfl fun g => ?_
  unfold Wy.recv
  have U0 : Upd cs cs off [] := Upd.refl_of (fun j v h => by simp at h)
  have A0 : W.stps [] s [] = .ok s [] := rfl
  have O0 : Oks [] [] := trivial
  have L0 : ([] : List Value).length = 0 := rfl
  repeat (first | refine RQ ?_ | (refine WL_Q ?_; (first | refine QW_of (Qt_nilCheck_m rfl) ?_)) | refine RC ?_)
  refine WC_draw_sub (id := 0) 8 (Cs [0,1,2,3,4,5,6] <| .must 7 <| .done) mixed (by kernel_rfl) (List.nil_sublist _) ?_
  repeat (first | refine RQr ?_ | (refine RX ?_; (first | refine QW_of (Qt_nilCheck_m rfl) ?_)) | refine RC ?_ | refine RU ?_ | refine WC_draw_all (id := 0) 8 (Cs [0,1,2,3,4,5,6] <| .must 7 <| .done) mixed (by kernel_rfl) ?_)
  have l0 : Lies cs (off + 0) [x0] := fun q v h => by
    rw [U0.rest _ (.inr (by rw [L0]; omega))]
    exact g0 q v h
  refine WR_op rfl rfl ?_
  refine (OW_flatI M.mw M.cw hM0 hT0 (W.room_le hr0 (by decide)) hR hx0 (l0 0 _ rfl) (hfr.sub 0 1 (by decide)) rfl ⟨?_, ?_⟩)
  rotate_left
  · intro c a p s' Lp' cs' hs hM' hz
    exact ⟨_, rfl, c, a, p, s', Lp', cs', W.bad_cat [.ww, .nn, .ww, .ww] [x1, x2, x3, x4] (W.cat_bad A0 O0 hs) (Oks.app O0 ho0), rfl, rfl, hM', hz.trans U0.size⟩
  intro s1 us0 Lp1 cs1 hs0 hM1 hu0 hT1
  have n0 : us0.length = 1 := W.stps_len hs0 ho0
  have U1 := U0.app hu0 (by rw [L0])
  have L1 := (show ([] ++ us0).length = 1 by rw [List.length_append, L0, n0])
  have A1 := W.cat_ok A0 O0 hs0
  have O1 := Oks.app O0 ho0
  have hr1 := W.stps_room (n := 4) hs0 ho0 (W.room_le hr0 (by decide))
  have R1 := get_set_self hR (b, Obj.cells cs1 E fr)
  refine ⟨(fun q hq => (by cases hq)), ?_⟩
  repeat (first | refine RQr ?_ | (refine RX ?_; (first | refine QW_of (Qt_nilCheck_m rfl) ?_)) | refine RC ?_ | refine RU ?_ | refine WC_draw_all (id := 0) 8 (Cs [0,1,2,3,4,5,6] <| .must 7 <| .done) mixed (by kernel_rfl) ?_)
  refine WC_draw_sub (id := 1) 8 (Cs [0,1,2,3,4,5,6] <| .must 7 <| .done) mixed (by kernel_rfl) (List.nil_sublist _) ?_
  repeat (first | refine RQr ?_ | (refine RX ?_; (first | refine QW_of (Qt_nilCheck_m rfl) ?_)) | refine RC ?_ | refine RU ?_ | refine WC_draw_all (id := 1) 8 (Cs [0,1,2,3,4,5,6] <| .must 7 <| .done) mixed (by kernel_rfl) ?_)
  have l1 : Lies cs1 (off + 1) [x1] := fun q v h => by
    rw [U1.rest _ (.inr (by rw [L1]; omega))]
    exact g1 q v h
  refine WR_op rfl rfl ?_
  refine (OW_flatI M.mw M.cw hM1 hT1 (W.room_le hr1 (by decide)) R1 hx1 (l1 0 _ rfl) (hfr.sub 1 1 (by decide)) rfl ⟨?_, ?_⟩)
  rotate_left
  · intro c a p s' Lp' cs' hs hM' hz
    exact ⟨_, rfl, c, a, p, s', Lp', cs', W.bad_cat [.nn, .ww, .ww] [x2, x3, x4] (W.cat_bad A1 O1 hs) (Oks.app O1 ho1), rfl, by rw [List.set_set], hM', hz.trans U1.size⟩
  intro s2 us1 Lp2 cs2 hs1 hM2 hu1 hT2
  have n1 : us1.length = 1 := W.stps_len hs1 ho1
  have U2 := U1.app hu1 (by rw [L1])
  have L2 := (show (([] ++ us0) ++ us1).length = 2 by rw [List.length_append, L1, n1])
  have A2 := W.cat_ok A1 O1 hs1
  have O2 := Oks.app O1 ho1
  have hr2 := W.stps_room (n := 3) hs1 ho1 (W.room_le hr1 (by decide))
  rw [List.set_set] at hT2
  rw [List.set_set]
  have R2 := get_set_self hR (b, Obj.cells cs2 E fr)
  refine ⟨(fun q hq => (by cases hq)), ?_⟩
  repeat (first | refine RQr ?_ | (refine RX ?_; (first | refine QW_of (Qt_nilCheck_m rfl) ?_)) | refine RC ?_ | refine RU ?_ | refine WC_draw_all (id := 1) 8 (Cs [0,1,2,3,4,5,6] <| .must 7 <| .done) mixed (by kernel_rfl) ?_)
  refine WC_draw_sub (id := 2) 8 (Cs [0,1,2,3,4,5,6] <| .must 7 <| .done) mixed (by kernel_rfl) (List.nil_sublist _) ?_
  repeat (first | refine RQr ?_ | (refine RX ?_; (first | refine QW_of (Qt_nilCheck_m rfl) ?_)) | refine RC ?_ | refine RU ?_ | refine WC_draw_all (id := 2) 8 (Cs [0,1,2,3,4,5,6] <| .must 7 <| .done) mixed (by kernel_rfl) ?_)
  have l2 : Lies cs2 (off + 2) [x2] := fun q v h => by
    rw [U2.rest _ (.inr (by rw [L2]; omega))]
    exact g2 q v h
  refine WR_op rfl rfl ?_
  refine (OW_flatI M.mn M.cn hM2 hT2 (W.room_le hr2 (by decide)) R2 hx2 (l2 0 _ rfl) (hfr.sub 2 1 (by decide)) rfl ⟨?_, ?_⟩)
  rotate_left
  · intro c a p s' Lp' cs' hs hM' hz
    exact ⟨_, rfl, c, a, p, s', Lp', cs', W.bad_cat [.ww, .ww] [x3, x4] (W.cat_bad A2 O2 hs) (Oks.app O2 ho2), rfl, by rw [List.set_set], hM', hz.trans U2.size⟩
  intro s3 us2 Lp3 cs3 hs2 hM3 hu2 hT3
  have n2 : us2.length = 1 := W.stps_len hs2 ho2
  have U3 := U2.app hu2 (by rw [L2])
  have L3 := (show ((([] ++ us0) ++ us1) ++ us2).length = 3 by rw [List.length_append, L2, n2])
  have A3 := W.cat_ok A2 O2 hs2
  have O3 := Oks.app O2 ho2
  have hr3 := W.stps_room (n := 2) hs2 ho2 (W.room_le hr2 (by decide))
  rw [List.set_set] at hT3
  rw [List.set_set]
  have R3 := get_set_self hR (b, Obj.cells cs3 E fr)
  refine ⟨(fun q hq => (by cases hq)), ?_⟩
  repeat (first | refine RQr ?_ | (refine RX ?_; (first | refine QW_of (Qt_nilCheck_m rfl) ?_)) | refine RC ?_ | refine RU ?_ | refine WC_draw_all (id := 2) 8 (Cs [0,1,2,3,4,5,6] <| .must 7 <| .done) mixed (by kernel_rfl) ?_)
  refine WC_draw_sub (id := 3) 8 (Cs [0,1,2,3,4,5,6] <| .must 7 <| .done) mixed (by kernel_rfl) (List.nil_sublist _) ?_
  repeat (first | refine RQr ?_ | (refine RX ?_; (first | refine QW_of (Qt_nilCheck_m rfl) ?_)) | refine RC ?_ | refine RU ?_ | refine WC_draw_all (id := 3) 8 (Cs [0,1,2,3,4,5,6] <| .must 7 <| .done) mixed (by kernel_rfl) ?_)
  have l3 : Lies cs3 (off + 3) [x3] := fun q v h => by
    rw [U3.rest _ (.inr (by rw [L3]; omega))]
    exact g3 q v h
  refine WR_op rfl rfl ?_
  refine (OW_flatI M.mw M.cw hM3 hT3 (W.room_le hr3 (by decide)) R3 hx3 (l3 0 _ rfl) (hfr.sub 3 1 (by decide)) rfl ⟨?_, ?_⟩)
  rotate_left
  · intro c a p s' Lp' cs' hs hM' hz
    exact ⟨_, rfl, c, a, p, s', Lp', cs', W.bad_cat [.ww] [x4] (W.cat_bad A3 O3 hs) (Oks.app O3 ho3), rfl, by rw [List.set_set], hM', hz.trans U3.size⟩
  intro s4 us3 Lp4 cs4 hs3 hM4 hu3 hT4
  have n3 : us3.length = 1 := W.stps_len hs3 ho3
  have U4 := U3.app hu3 (by rw [L3])
  have L4 := (show (((([] ++ us0) ++ us1) ++ us2) ++ us3).length = 4 by rw [List.length_append, L3, n3])
  have A4 := W.cat_ok A3 O3 hs3
  have O4 := Oks.app O3 ho3
  have hr4 := W.stps_room (n := 1) hs3 ho3 (W.room_le hr3 (by decide))
  rw [List.set_set] at hT4
  rw [List.set_set]
  have R4 := get_set_self hR (b, Obj.cells cs4 E fr)
  refine ⟨(fun q hq => (by cases hq)), ?_⟩
  repeat (first | refine RQr ?_ | (refine RX ?_; (first | refine QW_of (Qt_nilCheck_m rfl) ?_)) | refine RC ?_ | refine RU ?_ | refine WC_draw_all (id := 3) 8 (Cs [0,1,2,3,4,5,6] <| .must 7 <| .done) mixed (by kernel_rfl) ?_)
  refine WC_draw_sub (id := 4) 8 (Cs [0,1,2,3,4,5,6] <| .must 7 <| .done) mixed (by kernel_rfl) (List.nil_sublist _) ?_
  repeat (first | refine RQr ?_ | (refine RX ?_; (first | refine QW_of (Qt_nilCheck_m rfl) ?_)) | refine RC ?_ | refine RU ?_ | refine WC_draw_all (id := 4) 8 (Cs [0,1,2,3,4,5,6] <| .must 7 <| .done) mixed (by kernel_rfl) ?_)
  have l4 : Lies cs4 (off + 4) [x4] := fun q v h => by
    rw [U4.rest _ (.inr (by rw [L4]; omega))]
    exact g4 q v h
  refine WR_op rfl rfl ?_
  refine (OW_flatI M.mw M.cw hM4 hT4 (W.room_le hr4 (by decide)) R4 hx4 (l4 0 _ rfl) (hfr.sub 4 1 (by decide)) rfl ⟨?_, ?_⟩)
  rotate_left
  · intro c a p s' Lp' cs' hs hM' hz
    exact ⟨_, rfl, c, a, p, s', Lp', cs', W.bad_cat [] [] (W.cat_bad A4 O4 hs) (Oks.app O4 ho4), rfl, by rw [List.set_set], hM', hz.trans U4.size⟩
  intro s5 us4 Lp5 cs5 hs4 hM5 hu4 hT5
  have n4 : us4.length = 1 := W.stps_len hs4 ho4
  have U5 := U4.app hu4 (by rw [L4])
  have L5 := (show ((((([] ++ us0) ++ us1) ++ us2) ++ us3) ++ us4).length = 5 by rw [List.length_append, L4, n4])
  have A5 := W.cat_ok A4 O4 hs4
  have O5 := Oks.app O4 ho4
  have hr5 := W.stps_room (n := 0) hs4 ho4 (W.room_le hr4 (by decide))
  rw [List.set_set] at hT5
  rw [List.set_set]
  have R5 := get_set_self hR (b, Obj.cells cs5 E fr)
  refine ⟨(fun q hq => (by cases hq)), ?_⟩
  repeat (first | refine RQr ?_ | (refine RX ?_; (first | refine QW_of (Qt_nilCheck_m rfl) ?_)) | refine RC ?_ | refine RU ?_ | refine WC_draw_all (id := 4) 8 (Cs [0,1,2,3,4,5,6] <| .must 7 <| .done) mixed (by kernel_rfl) ?_)
  exact ⟨.tuple #[], _, Res0 rfl, .refl _, rfl, s5, _, Lp5, cs5, A5, rfl, hM5, U5, hT5⟩
set_option maxHeartbeats 4000000 in
theorem entry_flat : Flat W 57 W.recv entryF := by
  intro s Lp R i b cs E fr off vs hM0 hT0 hr0 hR hv hl hfr
  obtain ⟨x0, vs, rfl, hx0, hv⟩ := hv.split
  obtain ⟨x1, vs, rfl, hx1, hv⟩ := hv.split
  obtain ⟨x2, vs, rfl, hx2, hv⟩ := hv.split
  obtain ⟨x3, vs, rfl, hx3, hv⟩ := hv.split
  obtain ⟨x4, vs, rfl, hx4, hv⟩ := hv.split
  obtain ⟨x5, vs, rfl, hx5, hv⟩ := hv.split
  obtain ⟨x6, vs, rfl, hx6, hv⟩ := hv.split
  obtain ⟨x7, vs, rfl, hx7, hv⟩ := hv.split
  obtain ⟨x8, vs, rfl, hx8, hv⟩ := hv.split
  obtain ⟨x9, vs, rfl, hx9, hv⟩ := hv.split
  obtain rfl := hv.nil
  have ho0 : Oks [.ww] [x0] := ⟨hx0, trivial⟩
  have g0 : Lies cs (off + 0) [x0] := hl.cut 0 1
  have ho1 : Oks [.kk] [x1] := ⟨hx1, trivial⟩
  have g1 : Lies cs (off + 1) [x1] := hl.cut 1 1
  have ho2 : Oks [.ww] [x2] := ⟨hx2, trivial⟩
  have g2 : Lies cs (off + 2) [x2] := hl.cut 2 1
  have ho3 : Oks [.ww] [x3] := ⟨hx3, trivial⟩
  have g3 : Lies cs (off + 3) [x3] := hl.cut 3 1
  have ho4 : Oks [.bb] [x4] := ⟨hx4, trivial⟩
  have g4 : Lies cs (off + 4) [x4] := hl.cut 4 1
  have ho5 : Oks [.ww, .ww, .nn, .ww, .ww] [x5, x6, x7, x8, x9] := ⟨hx5, hx6, hx7, hx8, hx9, trivial⟩
  have g5 : Lies cs (off + 5) [x5, x6, x7, x8, x9] := hl.cut 5 5
  have qw := M.mw
  have pw := M.iw
  have qb := M.mo
  have pb := M.io
  refine FnE_enter Tryz.func57 rfl Tryz.ntmps57 rfl fun g => ?_
  unfold Wy.recv
  have U0 : Upd cs cs off [] := Upd.refl_of (fun j v h => by simp at h)
  have A0 : W.stps [] s [] = .ok s [] := rfl
  have O0 : Oks [] [] := trivial
  have L0 : ([] : List Value).length = 0 := rfl
  repeat (first | refine RQ ?_ | (refine WL_Q ?_; (first | refine QW_of (Qt_nilCheck_m rfl) ?_)) | refine RC ?_ | refine WG 0 ?_)
  have l0 : Lies cs (off + 0) [x0] := fun q v h => by
    rw [U0.rest _ (.inr (by rw [L0]; omega))]
    exact g0 q v h
  refine WL_op rfl ?_
  refine (OW_flatF (small_flat M) hM0 hT0 (W.room_le hr0 (by decide)) hR ho0 l0 (hfr.sub 0 1 (by decide)) rfl ⟨?_, ?_⟩)
  rotate_left
  · intro c a p s' Lp' cs' hs hM' hz
    exact ⟨_, rfl, c, a, p, s', Lp', cs', W.bad_cat [.kk, .ww, .ww, .bb, .ww, .ww, .nn, .ww, .ww] [x1, x2, x3, x4, x5, x6, x7, x8, x9] (W.cat_bad A0 O0 hs) (Oks.app O0 ho0), rfl, rfl, hM', hz.trans U0.size⟩
  intro s1 us0 Lp1 cs1 hs0 hM1 hu0 hT1
  have n0 : us0.length = 1 := W.stps_len hs0 ho0
  have U1 := U0.app hu0 (by rw [L0])
  have L1 := (show ([] ++ us0).length = 1 by rw [List.length_append, L0, n0])
  have A1 := W.cat_ok A0 O0 hs0
  have O1 := Oks.app O0 ho0
  have hr1 := W.stps_room (n := 9) hs0 ho0 (W.room_le hr0 (by decide))
  have R1 := get_set_self hR (b, Obj.cells cs1 E fr)
  repeat (first | refine RQ ?_ | (refine WL_Q ?_; (first | refine QW_of (Qt_nilCheck_m rfl) ?_)) | refine RC ?_ | refine WG 0 ?_)
  repeat (first | refine RQ ?_ | (refine WL_Q ?_; (first | refine QW_of (Qt_nilCheck_m rfl) ?_)) | refine RC ?_ | refine WG 1 ?_)
  have l1 : Lies cs1 (off + 1) [x1] := fun q v h => by
    rw [U1.rest _ (.inr (by rw [L1]; omega))]
    exact g1 q v h
  refine WL_op rfl ?_
  refine (OW_flatF (key_flat M) hM1 hT1 (W.room_le hr1 (by decide)) R1 ho1 l1 (hfr.sub 1 1 (by decide)) rfl ⟨?_, ?_⟩)
  rotate_left
  · intro c a p s' Lp' cs' hs hM' hz
    exact ⟨_, rfl, c, a, p, s', Lp', cs', W.bad_cat [.ww, .ww, .bb, .ww, .ww, .nn, .ww, .ww] [x2, x3, x4, x5, x6, x7, x8, x9] (W.cat_bad A1 O1 hs) (Oks.app O1 ho1), rfl, by rw [List.set_set], hM', hz.trans U1.size⟩
  intro s2 us1 Lp2 cs2 hs1 hM2 hu1 hT2
  have n1 : us1.length = 1 := W.stps_len hs1 ho1
  have U2 := U1.app hu1 (by rw [L1])
  have L2 := (show (([] ++ us0) ++ us1).length = 2 by rw [List.length_append, L1, n1])
  have A2 := W.cat_ok A1 O1 hs1
  have O2 := Oks.app O1 ho1
  have hr2 := W.stps_room (n := 8) hs1 ho1 (W.room_le hr1 (by decide))
  rw [List.set_set] at hT2
  rw [List.set_set]
  have R2 := get_set_self hR (b, Obj.cells cs2 E fr)
  repeat (first | refine RQ ?_ | (refine WL_Q ?_; (first | refine QW_of (Qt_nilCheck_m rfl) ?_)) | refine RC ?_ | refine WG 1 ?_)
  refine WC_draw_sub (id := 2) 8 (Cs [0,1,2,3,4,5,6] <| .must 7 <| .done) mixed (by kernel_rfl) (List.nil_sublist _) ?_
  repeat (first | refine RQr ?_ | (refine RX ?_; (first | refine QW_of (Qt_nilCheck_m rfl) ?_)) | refine RC ?_ | refine RU ?_ | refine WC_draw_all (id := 2) 8 (Cs [0,1,2,3,4,5,6] <| .must 7 <| .done) mixed (by kernel_rfl) ?_)
  have l2 : Lies cs2 (off + 2) [x2] := fun q v h => by
    rw [U2.rest _ (.inr (by rw [L2]; omega))]
    exact g2 q v h
  refine WR_op rfl rfl ?_
  refine (OW_flatI M.mw M.cw hM2 hT2 (W.room_le hr2 (by decide)) R2 hx2 (l2 0 _ rfl) (hfr.sub 2 1 (by decide)) rfl ⟨?_, ?_⟩)
  rotate_left
  · intro c a p s' Lp' cs' hs hM' hz
    exact ⟨_, rfl, c, a, p, s', Lp', cs', W.bad_cat [.ww, .bb, .ww, .ww, .nn, .ww, .ww] [x3, x4, x5, x6, x7, x8, x9] (W.cat_bad A2 O2 hs) (Oks.app O2 ho2), rfl, by rw [List.set_set], hM', hz.trans U2.size⟩
  intro s3 us2 Lp3 cs3 hs2 hM3 hu2 hT3
  have n2 : us2.length = 1 := W.stps_len hs2 ho2
  have U3 := U2.app hu2 (by rw [L2])
  have L3 := (show ((([] ++ us0) ++ us1) ++ us2).length = 3 by rw [List.length_append, L2, n2])
  have A3 := W.cat_ok A2 O2 hs2
  have O3 := Oks.app O2 ho2
  have hr3 := W.stps_room (n := 7) hs2 ho2 (W.room_le hr2 (by decide))
  rw [List.set_set] at hT3
  rw [List.set_set]
  have R3 := get_set_self hR (b, Obj.cells cs3 E fr)
  refine ⟨(fun q hq => (by cases hq)), ?_⟩
  repeat (first | refine RQr ?_ | (refine RX ?_; (first | refine QW_of (Qt_nilCheck_m rfl) ?_)) | refine RC ?_ | refine RU ?_ | refine WC_draw_all (id := 2) 8 (Cs [0,1,2,3,4,5,6] <| .must 7 <| .done) mixed (by kernel_rfl) ?_)
  refine WC_draw_sub (id := 3) 8 (Cs [0,1,2,3,4,5,6] <| .must 7 <| .done) mixed (by kernel_rfl) (List.nil_sublist _) ?_
  repeat (first | refine RQr ?_ | (refine RX ?_; (first | refine QW_of (Qt_nilCheck_m rfl) ?_)) | refine RC ?_ | refine RU ?_ | refine WC_draw_all (id := 3) 8 (Cs [0,1,2,3,4,5,6] <| .must 7 <| .done) mixed (by kernel_rfl) ?_)
  have l3 : Lies cs3 (off + 3) [x3] := fun q v h => by
    rw [U3.rest _ (.inr (by rw [L3]; omega))]
    exact g3 q v h
  refine WR_op rfl rfl ?_
  refine (OW_flatI M.mw M.cw hM3 hT3 (W.room_le hr3 (by decide)) R3 hx3 (l3 0 _ rfl) (hfr.sub 3 1 (by decide)) rfl ⟨?_, ?_⟩)
  rotate_left
  · intro c a p s' Lp' cs' hs hM' hz
    exact ⟨_, rfl, c, a, p, s', Lp', cs', W.bad_cat [.bb, .ww, .ww, .nn, .ww, .ww] [x4, x5, x6, x7, x8, x9] (W.cat_bad A3 O3 hs) (Oks.app O3 ho3), rfl, by rw [List.set_set], hM', hz.trans U3.size⟩
  intro s4 us3 Lp4 cs4 hs3 hM4 hu3 hT4
  have n3 : us3.length = 1 := W.stps_len hs3 ho3
  have U4 := U3.app hu3 (by rw [L3])
  have L4 := (show (((([] ++ us0) ++ us1) ++ us2) ++ us3).length = 4 by rw [List.length_append, L3, n3])
  have A4 := W.cat_ok A3 O3 hs3
  have O4 := Oks.app O3 ho3
  have hr4 := W.stps_room (n := 6) hs3 ho3 (W.room_le hr3 (by decide))
  rw [List.set_set] at hT4
  rw [List.set_set]
  have R4 := get_set_self hR (b, Obj.cells cs4 E fr)
  refine ⟨(fun q hq => (by cases hq)), ?_⟩
  repeat (first | refine RQr ?_ | (refine RX ?_; (first | refine QW_of (Qt_nilCheck_m rfl) ?_)) | refine RC ?_ | refine RU ?_ | refine WC_draw_all (id := 3) 8 (Cs [0,1,2,3,4,5,6] <| .must 7 <| .done) mixed (by kernel_rfl) ?_)
  refine WC_draw_sub (id := 4) 8 (Cs [0,1,2,3,4,5,6] <| .must 7 <| .done) mixed (by kernel_rfl) (List.nil_sublist _) ?_
  repeat (first | refine RQr ?_ | (refine RX ?_; (first | refine QW_of (Qt_nilCheck_m rfl) ?_)) | refine RC ?_ | refine RU ?_ | refine WC_draw_all (id := 4) 8 (Cs [0,1,2,3,4,5,6] <| .must 7 <| .done) mixed (by kernel_rfl) ?_)
  have l4 : Lies cs4 (off + 4) [x4] := fun q v h => by
    rw [U4.rest _ (.inr (by rw [L4]; omega))]
    exact g4 q v h
  refine WR_op rfl rfl ?_
  refine (OW_flatI M.mo M.co hM4 hT4 (W.room_le hr4 (by decide)) R4 hx4 (l4 0 _ rfl) (hfr.sub 4 1 (by decide)) rfl ⟨?_, ?_⟩)
  rotate_left
  · intro c a p s' Lp' cs' hs hM' hz
    exact ⟨_, rfl, c, a, p, s', Lp', cs', W.bad_cat [.ww, .ww, .nn, .ww, .ww] [x5, x6, x7, x8, x9] (W.cat_bad A4 O4 hs) (Oks.app O4 ho4), rfl, by rw [List.set_set], hM', hz.trans U4.size⟩
  intro s5 us4 Lp5 cs5 hs4 hM5 hu4 hT5
  have n4 : us4.length = 1 := W.stps_len hs4 ho4
  have U5 := U4.app hu4 (by rw [L4])
  have L5 := (show ((((([] ++ us0) ++ us1) ++ us2) ++ us3) ++ us4).length = 5 by rw [List.length_append, L4, n4])
  have A5 := W.cat_ok A4 O4 hs4
  have O5 := Oks.app O4 ho4
  have hr5 := W.stps_room (n := 5) hs4 ho4 (W.room_le hr4 (by decide))
  rw [List.set_set] at hT5
  rw [List.set_set]
  have R5 := get_set_self hR (b, Obj.cells cs5 E fr)
  refine ⟨(fun q hq => (by cases hq)), ?_⟩
  repeat (first | refine RQr ?_ | (refine RX ?_; (first | refine QW_of (Qt_nilCheck_m rfl) ?_)) | refine RC ?_ | refine RU ?_ | refine WC_draw_all (id := 4) 8 (Cs [0,1,2,3,4,5,6] <| .must 7 <| .done) mixed (by kernel_rfl) ?_)
  repeat (first | refine RQ ?_ | (refine WL_Q ?_; (first | refine QW_of (Qt_nilCheck_m rfl) ?_)) | refine RC ?_ | refine WG 5 ?_)
  have l5 : Lies cs5 (off + 5) [x5, x6, x7, x8, x9] := fun q v h => by
    rw [U5.rest _ (.inr (by rw [L5]; omega))]
    exact g5 q v h
  refine WL_op rfl ?_
  refine (OW_flatF (acc_flat M) hM5 hT5 (W.room_le hr5 (by decide)) R5 ho5 l5 (hfr.sub 5 5 (by decide)) rfl ⟨?_, ?_⟩)
  rotate_left
  · intro c a p s' Lp' cs' hs hM' hz
    exact ⟨_, rfl, c, a, p, s', Lp', cs', W.bad_cat [] [] (W.cat_bad A5 O5 hs) (Oks.app O5 ho5), rfl, by rw [List.set_set], hM', hz.trans U5.size⟩
  intro s6 us5 Lp6 cs6 hs5 hM6 hu5 hT6
  have n5 : us5.length = 5 := W.stps_len hs5 ho5
  have U6 := U5.app hu5 (by rw [L5])
  have L6 := (show (((((([] ++ us0) ++ us1) ++ us2) ++ us3) ++ us4) ++ us5).length = 10 by rw [List.length_append, L5, n5])
  have A6 := W.cat_ok A5 O5 hs5
  have O6 := Oks.app O5 ho5
  have hr6 := W.stps_room (n := 0) hs5 ho5 (W.room_le hr5 (by decide))
  rw [List.set_set] at hT6
  rw [List.set_set]
  have R6 := get_set_self hR (b, Obj.cells cs6 E fr)
  repeat (first | refine RQ ?_ | (refine WL_Q ?_; (first | refine QW_of (Qt_nilCheck_m rfl) ?_)) | refine RC ?_ | refine WG 5 ?_)
  exact ⟨.tuple #[], _, Res0 rfl, .refl _, rfl, s6, _, Lp6, cs6, A6, rfl, hM6, U6, hT6⟩
end
end Go.Proofs.YtgimodceldoniaaGreatDoor
namespace Go.Proofs.YtgimodceldoniaaGreatDoor
open Go.RowKit
attribute [local irreducible] Fn WC WL WR OW Qt YieldFn QW FnP FnD FnE
def PMem (pb : Nat) (T0 : List (Nat × Obj)) (n0 : Nat) (bs : List UInt8) (Lp : List (Nat × Obj)) : Prop :=
  ∃ v T, Lp = T ++ [(pb, .cells #[v] 109 (0, 0))] ∧ ByAt (T ++ T0) v bs ∧
    ((T = [] ∧ bs.length = n0 ∧ ∃ a, v = .slice a bs.length bs.length) ∨ ∃ g off cap cur, v = .slice (some ⟨g, off, none⟩) bs.length cap ∧ T = [(g, .cells cur 5 (0, 0))] ∧ Own 1 cur off cap bs.length (bs.map bV))
theorem enc_len_ok {k : Fk} {x : Value} (h : k.ok x) : (k.enc x).length ≤ 10 := by
  cases k with
  | ww => obtain ⟨x, rfl, h0, h1⟩ := h; exact enc_len (zz_lt h0 h1)
  | nn => obtain ⟨x, rfl, h0, h1⟩ := h; exact enc_len (by omega)
  | kk => obtain ⟨x, rfl, h0, h1⟩ := h; exact enc_len (by omega)
  | tt => obtain ⟨x, rfl⟩ := h; cases x <;> simp [Fk.enc, encB]
  | bb => obtain ⟨x, rfl⟩ := h; simp [Fk.enc, bV]
def putW (pb : Nat) (T0 : List (Nat × Obj)) (n0 : Nat) : Wy Tryz.prog where
  S := List UInt8
  t := 107
  v := .pointer (some ⟨pb, 0, none⟩)
  T0 := T0
  mem := PMem pb T0 n0
  room := fun bs n => bs.length + 10 * n ≤ 1000000000
  stp := fun k bs x => .ok (bs ++ k.enc x) x
  hr := fun bs => bs
  mst := fun _ _ _ => none
  hr_room := fun h => h
  key_ok := fun h0 h1 h _ => by cases h; exact ⟨rfl, h1⟩
  key_bad := fun h => by cases h
  key_must := fun _ h => by cases h
  keeps := .inr fun _ _ _ _ _ h => by cases h; rfl
  stp_ok := fun h ho => by cases h; exact ho
  stp_room := fun h ho hr => by
    cases h
    have := enc_len_ok ho
    rw [List.length_append]
    omega
  room_le := fun h hm => by omega
theorem putW_stps (pb : Nat) (T0 : List (Nat × Obj)) (n0 : Nat) : ∀ {fs : List Fk} {bs : List UInt8} {vs : List Value}, Oks fs vs → (putW pb T0 n0).stps fs bs vs = .ok (bs ++ encs fs vs) vs
  | [], bs, [], _ => by simp [Wy.stps, encs]
  | k :: ks, bs, v :: vs, h => by
    have ih := putW_stps pb T0 n0 (fs := ks) (bs := bs ++ k.enc v) h.2
    simp only [Wy.stps]
    have e : (putW pb T0 n0).stp k bs v = .ok (bs ++ k.enc v) v := rfl
    rw [e]
    simp only
    rw [ih, List.append_assoc]
    rfl
  | [], _, _ :: _, h => h.elim
  | _ :: _, _, [], h => h.elim
section
variable {pb : Nat} {T0 : List (Nat × Obj)} {n0 : Nat}
theorem put_after {R : List (Nat × Obj)} (hT : ∀ q ∈ T0, q ∈ R) {bs bs' : List UInt8} {i b : Nat} {cs : Array Value} {E : TypeId} {fr : Nat × Nat} {off : Nat} {x : Value} {k : Fk} (hR : R[i]? = some (b, .cells cs E fr)) (hl : cs[off]? = some x) (he : bs' = bs ++ k.enc x) {g off' cap : Nat} {cur : Array Value} (ho : Own 1 cur off' cap bs'.length (bs'.map bV)) :
    FRet (putW pb T0 n0) ((putW pb T0 n0).stps [k] bs [x]) R i b cs E fr off ((g, .cells cur 5 (0, 0)) :: (pb, .cells #[.slice (some ⟨g, off', none⟩) bs'.length cap] 109 (0, 0)) :: R) := by
  subst he
  refine ⟨bs ++ k.enc x, [x], [(g, .cells cur 5 (0, 0))] ++ [(pb, .cells #[.slice (some ⟨g, off', none⟩) (bs ++ k.enc x).length cap] 109 (0, 0))], cs, rfl, by rw [set_same hR]; rfl, ⟨_, _, rfl, (show ByAt ([(g, Obj.cells cur 5 (0, 0))] ++ T0) _ _ from own_by0 ho), .inr ⟨g, off', cap, cur, rfl, rfl, ho⟩⟩, Upd.refl_of fun j v h => ?_, by rw [set_same hR]; exact hT⟩
  cases j with
  | zero => simp at h; subst h; exact hl
  | succ j => simp at h
theorem put_by {sl : Value} {T R : List (Nat × Obj)} {bs : List UInt8} {q : Nat × Obj} (hT : ∀ q ∈ T0, q ∈ R) (hb0 : ByAt (T ++ T0) sl bs) : ByAt ((T ++ [q]) ++ R) sl bs := by
  refine Vec.mono hb0 fun i p hp => ?_
  refine List.mem_iff_getElem?.1 ?_
  have := List.mem_of_getElem? hp
  rcases List.mem_append.1 this with h | h
  · exact List.mem_append_left _ (List.mem_append_left _ h)
  · exact List.mem_append_right _ (hT _ h)
set_option maxHeartbeats 1000000 in
theorem put_whole : Flat (putW pb T0 n0) 95 (.pointer (some ⟨pb, 0, none⟩)) [.ww] := by
  rintro (bs : List UInt8) _ R i b cs E fr off vs ⟨sl, T, rfl, hb0, hT⟩ hT0 hroom hR hv hl _
  obtain ⟨x0, us, rfl, ⟨x, rfl, h0, h1⟩, hv'⟩ := hv.split
  obtain rfl := hv'.nil
  have hc := hl.cons.1
  have hroom : bs.length + 10 * 1 ≤ 1000000000 := hroom
  have hlen : bs.length ≤ 1000000000 := by omega
  have hX := get_app (A := T ++ [(pb, .cells #[sl] 109 (0, 0))]) hR
  have hP : ((T ++ [(pb, .cells #[sl] 109 (0, 0))]) ++ R)[T.length]? = some (pb, .cells #[sl] 109 (0, 0)) := by simp
  have hb := put_by (R := R) (q := (pb, .cells #[sl] 109 (0, 0))) hT0 hb0
  refine FnE.ofFn ?_
  refine Fn_enter Tryz.func95 rfl Tryz.ntmps95 rfl fun g => ?_
  repeat (first | refine RQr ?_ | (refine OX ?_; (first | (refine OE ?_; try intro _) | (refine OW_call rfl (hF := PI_fn hb h0 h1 hlen) (hk := ?_); rintro _ _ ⟨b1, off1, cap1, cur1, rfl, rfl, ho1⟩)); try refine SD ?_) | refine RC ?_ | refine RU ?_ | refine WC_draw_all (id := 0) 9 (Cs [0,1,2,3,4,5,6,7] <| .must 8 <| .must 9 <| .must 10 <| .must 11 <| .done) mixed (by kernel_rfl) ?_ | refine WC_region ?_)
  have hP' : ((b1, Obj.cells cur1 5 (0, 0)) :: ((T ++ [(pb, .cells #[sl] 109 (0, 0))]) ++ R))[T.length + 1]? = some (pb, .cells #[sl] 109 (0, 0)) := hP
  refine WR_late rfl rfl rfl (OW_store1F (v := .slice (some ⟨b1, off1, none⟩) (bs ++ enc (zz x)).length cap1) rfl (off := 0) (cs := #[sl]) (T.length + 1) hP' (by simp) (Free.zero _ _) (WR_nil ?_))
  refine ⟨rfl, _, _, Res0 rfl, ?_, rfl, put_after (g := b1) hT0 hR hc rfl ho1⟩
  rw [show ∀ q : Nat × Obj, ((b1, Obj.cells cur1 5 (0, 0)) :: ((T ++ [(pb, .cells #[sl] 109 (0, 0))]) ++ R)).set (T.length + 1) q = (b1, Obj.cells cur1 5 (0, 0)) :: (T ++ (q :: R)) from fun q => by simp]
  exact .cons_cons _ (List.sublist_append_right _ _)
set_option maxHeartbeats 1000000 in
theorem put_number : Flat (putW pb T0 n0) 92 (.pointer (some ⟨pb, 0, none⟩)) [.nn] := by
  rintro (bs : List UInt8) _ R i b cs E fr off vs ⟨sl, T, rfl, hb0, hT⟩ hT0 hroom hR hv hl _
  obtain ⟨x0, us, rfl, ⟨x, rfl, h0, h1⟩, hv'⟩ := hv.split
  obtain rfl := hv'.nil
  have hc := hl.cons.1
  have hroom : bs.length + 10 * 1 ≤ 1000000000 := hroom
  have hlen : bs.length ≤ 1000000000 := by omega
  have hX := get_app (A := T ++ [(pb, .cells #[sl] 109 (0, 0))]) hR
  have hP : ((T ++ [(pb, .cells #[sl] 109 (0, 0))]) ++ R)[T.length]? = some (pb, .cells #[sl] 109 (0, 0)) := by simp
  have hb := put_by (R := R) (q := (pb, .cells #[sl] 109 (0, 0))) hT0 hb0
  refine FnE.ofFn ?_
  refine Fn_enter Tryz.func92 rfl Tryz.ntmps92 rfl fun g => ?_
  repeat (first | refine RQr ?_ | (refine OX ?_; (first | (refine OE ?_; try intro _) | (refine OW_call rfl (hF := P_fn' hb h0 h1 hlen) (hk := ?_); rintro _ _ ⟨b1, off1, cap1, cur1, rfl, rfl, ho1⟩)); try refine SD ?_) | refine RC ?_ | refine RU ?_ | refine WC_draw_all (id := 0) 9 (Cs [0,1,2,3,4,5,6,7] <| .must 8 <| .must 9 <| .must 10 <| .must 11 <| .done) mixed (by kernel_rfl) ?_ | refine WC_region ?_)
  have hP' : ((b1, Obj.cells cur1 5 (0, 0)) :: ((T ++ [(pb, .cells #[sl] 109 (0, 0))]) ++ R))[T.length + 1]? = some (pb, .cells #[sl] 109 (0, 0)) := hP
  refine WR_late rfl rfl rfl (OW_store1F (v := .slice (some ⟨b1, off1, none⟩) (bs ++ enc x.toNat).length cap1) rfl (off := 0) (cs := #[sl]) (T.length + 1) hP' (by simp) (Free.zero _ _) (WR_nil ?_))
  refine ⟨rfl, _, _, Res0 rfl, ?_, rfl, put_after (g := b1) hT0 hR hc rfl ho1⟩
  rw [show ∀ q : Nat × Obj, ((b1, Obj.cells cur1 5 (0, 0)) :: ((T ++ [(pb, .cells #[sl] 109 (0, 0))]) ++ R)).set (T.length + 1) q = (b1, Obj.cells cur1 5 (0, 0)) :: (T ++ (q :: R)) from fun q => by simp]
  exact .cons_cons _ (List.sublist_append_right _ _)
set_option maxHeartbeats 1000000 in
theorem put_truth : Flat (putW pb T0 n0) 94 (.pointer (some ⟨pb, 0, none⟩)) [.tt] := by
  rintro (bs : List UInt8) _ R i b cs E fr off vs ⟨sl, T, rfl, hb0, hT⟩ hT0 hroom hR hv hl _
  obtain ⟨x0, us, rfl, ⟨x, rfl⟩, hv'⟩ := hv.split
  obtain rfl := hv'.nil
  have hc := hl.cons.1
  have hroom : bs.length + 10 * 1 ≤ 1000000000 := hroom
  have hlen : bs.length ≤ 1000000000 := by omega
  have hX := get_app (A := T ++ [(pb, .cells #[sl] 109 (0, 0))]) hR
  have hP : ((T ++ [(pb, .cells #[sl] 109 (0, 0))]) ++ R)[T.length]? = some (pb, .cells #[sl] 109 (0, 0)) := by simp
  have hb := put_by (R := R) (q := (pb, .cells #[sl] 109 (0, 0))) hT0 hb0
  refine FnE.ofFn ?_
  refine Fn_enter Tryz.func94 rfl Tryz.ntmps94 rfl fun g => ?_
  repeat (first | refine RQr ?_ | (refine OX ?_; (first | (refine OE ?_; try intro _) | (refine OW_call rfl (hF := PBool_fn hb hlen) (hk := ?_); rintro _ _ ⟨b1, off1, cap1, cur1, rfl, rfl, ho1⟩)); try refine SD ?_) | refine RC ?_ | refine RU ?_ | refine WC_draw_all (id := 0) 9 (Cs [0,1,2,3,4,5,6,7] <| .must 8 <| .must 9 <| .must 10 <| .must 11 <| .done) mixed (by kernel_rfl) ?_ | refine WC_region ?_)
  have hP' : ((b1, Obj.cells cur1 5 (0, 0)) :: ((T ++ [(pb, .cells #[sl] 109 (0, 0))]) ++ R))[T.length + 1]? = some (pb, .cells #[sl] 109 (0, 0)) := hP
  refine WR_late rfl rfl rfl (OW_store1F (v := .slice (some ⟨b1, off1, none⟩) (bs ++ encB x).length cap1) rfl (off := 0) (cs := #[sl]) (T.length + 1) hP' (by simp) (Free.zero _ _) (WR_nil ?_))
  refine ⟨rfl, _, _, Res0 rfl, ?_, rfl, put_after (g := b1) hT0 hR hc rfl ho1⟩
  rw [show ∀ q : Nat × Obj, ((b1, Obj.cells cur1 5 (0, 0)) :: ((T ++ [(pb, .cells #[sl] 109 (0, 0))]) ++ R)).set (T.length + 1) q = (b1, Obj.cells cur1 5 (0, 0)) :: (T ++ (q :: R)) from fun q => by simp]
  exact .cons_cons _ (List.sublist_append_right _ _)
set_option maxHeartbeats 1000000 in
theorem put_one : Flat (putW pb T0 n0) 93 (.pointer (some ⟨pb, 0, none⟩)) [.bb] := by
  rintro (bs : List UInt8) _ R i b cs E fr off vs ⟨sl, T, rfl, hb0, hT⟩ hT0 hroom hR hv hl _
  obtain ⟨x0, us, rfl, ⟨x, rfl⟩, hv'⟩ := hv.split
  obtain rfl := hv'.nil
  have hc := hl.cons.1
  have hroom : bs.length + 10 * 1 ≤ 1000000000 := hroom
  have hlen : bs.length ≤ 1000000000 := by omega
  have hX := get_app (A := T ++ [(pb, .cells #[sl] 109 (0, 0))]) hR
  have hP : ((T ++ [(pb, .cells #[sl] 109 (0, 0))]) ++ R)[T.length]? = some (pb, .cells #[sl] 109 (0, 0)) := by simp
  have hb := put_by (R := R) (q := (pb, .cells #[sl] 109 (0, 0))) hT0 hb0
  have e1 : bs ++ [x] = bs ++ Fk.enc .bb (bV x) := by
    show _ = bs ++ [UInt8.ofNat ((x.toNat : Nat) : Int).toNat]
    rw [Int.toNat_natCast, UInt8.ofNat_toNat]
  refine FnE.ofFn ?_
  refine Fn_enter Tryz.func93 rfl Tryz.ntmps93 rfl fun g => ?_
  rcases hT with ⟨rfl, hn0, a, rfl⟩ | ⟨g, goff, gcap, gcur, rfl, rfl, hown⟩
  · repeat (first | refine RQr ?_ | (refine OX ?_; (first | (refine OE ?_; try intro _)); try refine SD ?_) | refine RC ?_ | refine RU ?_ | refine WC_draw_all (id := 0) 10 (Cs [0,1,2,3,4,5,6,7] <| .must 8 <| .must 9 <| .must 10 <| .must 11 <| .must 12 <| .done) mixed (by kernel_rfl) ?_ | refine WC_region ?_)
    rename_i qb
    refine WR_opG rfl rfl (OW_append_new rfl rfl rfl rfl rfl (olds := bs.map bV) (m := 1) (news := [bV x]) (Vec.cons _ hb) (src1 0 rfl) (by omega) (by simp only [maxLen]; omega) (by omega) fun b1 cap1 cur1 ho => ?_)
    refine ⟨(by first | exact fun _ h => h | exact fun _ h => List.Sublist.subset (by repeat (first | exact .refl _ | exact List.nil_sublist _ | exact List.sublist_append_right _ _ | exact List.Sublist.append (.refl _) (List.sublist_append_right _ _) | apply List.Sublist.cons_cons | apply List.Sublist.cons)) h), ?_⟩
    repeat (first | refine RQr ?_ | (refine OX ?_; (first | (refine OE ?_; try intro _)); try refine SD ?_) | refine RC ?_ | refine RU ?_ | refine WC_draw_all (id := 0) 10 (Cs [0,1,2,3,4,5,6,7] <| .must 8 <| .must 9 <| .must 10 <| .must 11 <| .must 12 <| .done) mixed (by kernel_rfl) ?_ | refine WC_region ?_)
    have ho1 : Own 1 cur1 0 cap1 (bs ++ [x]).length ((bs ++ [x]).map bV) := by rw [List.length_append, List.map_append]; exact ho
    have hf := put_after (g := b1) (pb := pb) (T0 := T0) (n0 := n0) hT0 hR hc e1 ho1
    rw [List.length_append] at hf
    exact ⟨rfl, _, _, Res0 rfl, .cons_cons _ (.cons _ (.refl _)), rfl, hf⟩
  · have hX2 : ((pb, Obj.cells #[.slice (some ⟨g, goff, none⟩) bs.length gcap] 109 (0, 0)) :: R)[i + 1]? = some _ := hR
    have hsub : ((pb, Obj.cells #[.slice (some ⟨g, goff, none⟩) bs.length gcap] 109 (0, 0)) :: R).Sublist (([(g, Obj.cells gcur 5 (0, 0))] ++ [(pb, Obj.cells #[.slice (some ⟨g, goff, none⟩) bs.length gcap] 109 (0, 0))]) ++ R) := .cons _ (.refl _)
    refine WC_draw_sub (id := 0) 10 (Cs [0,1,2,3,4,5,6,7] <| .must 8 <| .must 9 <| .must 10 <| .must 11 <| .must 12 <| .done) mixed (by kernel_rfl) (hsub) ?_
    repeat (first | refine RQr ?_ | ((first | refine WL_op rfl ?_ | refine WR_late rfl rfl rfl ?_ | refine WR_op rfl rfl ?_); (first | (refine OE ?_; try intro _)); try refine SD ?_) | refine RC ?_ | refine RU ?_ | refine WC_draw_all (id := 0) 10 (Cs [0,1,2,3,4,5,6,7] <| .must 8 <| .must 9 <| .must 10 <| .must 11 <| .must 12 <| .done) mixed (by kernel_rfl) ?_ | refine WC_region ?_)
    rename_i qb
    refine WR_op rfl rfl (OW_append_own rfl rfl rfl rfl rfl 1 rfl hown (src1 0 rfl) (by simp only [maxLen]; omega) (by omega) fun b1 off1 cap1 cur1 ho => ?_)
    simp only [List.cons_append, List.nil_append, List.set_cons_succ, List.set_cons_zero]
    refine ⟨(by first | exact fun _ h => h | exact fun _ h => List.Sublist.subset (by repeat (first | exact .refl _ | exact List.nil_sublist _ | exact List.sublist_append_right _ _ | exact List.Sublist.append (.refl _) (List.sublist_append_right _ _) | apply List.Sublist.cons_cons | apply List.Sublist.cons)) h), ?_⟩
    repeat (first | refine RQr ?_ | ((first | refine WL_op rfl ?_ | refine WR_late rfl rfl rfl ?_ | refine WR_op rfl rfl ?_); (first | (refine OE ?_; try intro _)); try refine SD ?_) | refine RC ?_ | refine RU ?_ | refine WC_draw_all (id := 0) 10 (Cs [0,1,2,3,4,5,6,7] <| .must 8 <| .must 9 <| .must 10 <| .must 11 <| .must 12 <| .done) mixed (by kernel_rfl) ?_ | refine WC_region ?_)
    have ho1 : Own 1 cur1 off1 cap1 (bs ++ [x]).length ((bs ++ [x]).map bV) := by rw [List.length_append, List.map_append]; exact ho
    have hf := put_after (g := b1) (pb := pb) (T0 := T0) (n0 := n0) hT0 hR hc e1 ho1
    rw [List.length_append] at hf
    exact ⟨rfl, _, _, Res0 rfl, .cons _ (.refl _), rfl, hf⟩
theorem put_here (s : List UInt8) (Lp R : List (Nat × Obj)) (h : PMem pb T0 n0 s Lp) : FnE Tryz.prog 90 [.pointer (some ⟨pb, 0, none⟩)] (Lp ++ R) (fun v L' => v = .tuple #[] ∧ ∃ Lp', L' = Lp' ++ R ∧ PMem pb T0 n0 s Lp') (fun _ _ => False) := by
  refine FnE.ofFn ?_
  refine Fn_enter Tryz.func90 rfl Tryz.ntmps90 rfl fun g => ?_
  repeat (first | refine RQ ?_ | refine RC ?_ | refine WC_region ?_)
  exact ⟨rfl, _, _, Res0 rfl, .refl _, rfl, Lp, rfl, h⟩
theorem put_must (Lp R : List (Nat × Obj)) (b : Bool) (code : Nat) : FnE Tryz.prog 91 [.pointer (some ⟨pb, 0, none⟩), .bool b, .int .i64 code] (Lp ++ R) (fun v L' => v = .tuple #[] ∧ L' = Lp ++ R) (fun _ _ => False) := by
  refine FnE.ofFn ?_
  refine Fn_enter Tryz.func91 rfl Tryz.ntmps91 rfl fun g => ?_
  repeat (first | refine RQ ?_ | refine RC ?_ | refine WC_region ?_)
  exact ⟨rfl, _, _, Res0 rfl, .refl _, rfl, rfl⟩
end
def putM (pb : Nat) (T0 : List (Nat × Obj)) (n0 : Nat) : Meth (putW pb T0 n0) where
  fw := 95
  fn := 92
  ft := 94
  fo := 93
  fh := 90
  fm := 91
  mw := by kernel_rfl
  mn := by kernel_rfl
  mt := by kernel_rfl
  mo := by kernel_rfl
  mh := by kernel_rfl
  mm := by kernel_rfl
  iw := inferInstance
  jn := inferInstance
  it := inferInstance
  io := inferInstance
  ih := inferInstance
  im := inferInstance
  cw := put_whole
  cn := put_number
  ct := put_truth
  co := put_one
  ch := put_here
  cm := fun _ Lp R b code _ => (put_must Lp R b code).mono (fun _ _ ⟨h1, h2⟩ => ⟨h1, h2, rfl⟩) (fun _ _ h => h.elim)
theorem putF {pb : Nat} {T0 : List (Nat × Obj)} {n0 : Nat} {f : FuncId} {a0 : Value} {fs : List Fk} (hC : Flat (putW pb T0 n0) f a0 fs) {bs : List UInt8} {Lp R : List (Nat × Obj)} {i b : Nat} {cs : Array Value} {E : TypeId} {fr : Nat × Nat} {off : Nat} {vs : List Value} (hM : PMem pb T0 n0 bs Lp) (hT : ∀ q ∈ T0, q ∈ R) (hroom : bs.length + 10 * fs.length ≤ 1000000000) (hR : R[i]? = some (b, .cells cs E fr)) (hv : Oks fs vs) (hl : Lies cs off vs) (hfr : Free fr off fs.length) :
    Fn Tryz.prog f [a0, .pointer (some ⟨b, off, none⟩)] (Lp ++ R) (fun v L' => v = .tuple #[] ∧ ∃ Lp', L' = Lp' ++ R ∧ PMem pb T0 n0 (bs ++ encs fs vs) Lp') := by
  have h := hC bs Lp R i b cs E fr off vs hM hT hroom hR hv hl hfr
  rw [putW_stps pb T0 n0 hv] at h
  refine (h.toFn fun u L' ⟨c, a, p, s', Lp', cs', h1, _⟩ => by cases h1).mono fun v L' ⟨h0, s', vs', Lp', cs', h1, h2, h3, h4, _⟩ => ?_
  cases h1
  refine ⟨h0, Lp', ?_, h3⟩
  rw [h2, h4.same hl, set_same hR]
theorem encs_len : ∀ {fs : List Fk} {vs : List Value}, Oks fs vs → (encs fs vs).length ≤ 10 * fs.length
  | [], [], _ => by simp [encs]
  | k :: ks, v :: vs, h => by
    have h1 := enc_len_ok h.1
    have h2 := encs_len h.2
    show (k.enc v ++ encs ks vs).length ≤ _
    rw [List.length_append, List.length_cons]; omega
  | [], _ :: _, h => h.elim
  | _ :: _, [], h => h.elim
theorem encn_len {es : List Fk} : ∀ {vss : List (List Value)}, (∀ vs ∈ vss, Oks es vs) → (vss.flatMap (encs es)).length ≤ 10 * es.length * vss.length
  | [], _ => by simp
  | v :: vss, h => by
    have h1 := encs_len (h v List.mem_cons_self)
    have h2 := encn_len (vss := vss) fun vs hv => h vs (List.mem_cons_of_mem _ hv)
    rw [List.flatMap_cons, List.length_append, List.length_cons, Nat.mul_succ]; omega
theorem encl_len {es : List Fk} {vss : List (List Value)} (h : ∀ vs ∈ vss, Oks es vs) (hn : vss.length ≤ 1000000) : (encl es vss).length ≤ 10 + 10 * es.length * vss.length := by
  have h1 := encn_len h
  have h2 := enc_len (n := vss.length) (by omega)
  unfold encl
  rw [List.length_append]; omega
end Go.Proofs.YtgimodceldoniaaGreatDoor
