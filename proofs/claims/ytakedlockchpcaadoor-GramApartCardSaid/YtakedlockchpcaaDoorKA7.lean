/-
  A part of what the last of these texts needs; by itself it proves no statement.
-/
import Derived.Test.YtakedlockchpcaaDoorKA6
namespace Go.Proofs.YtakedlockchpcaaDoor
open Go.RowKit
noncomputable section
attribute [local irreducible] T.put T.set
def handle : Value := .iface 161 (.agg #[.pointer (some ⟨1, 43, none⟩)])
def hOk (Hp : H) : Bool := match Hp.h.get 0 with
  | some (.glob b0 v) => match v with
    | .iface r (.agg a) => match a.toList with
      | [.pointer (some ⟨B, o, none⟩)] => Nat.beq b0 0 && Nat.beq r 161 && Nat.beq B 1 && Nat.beq o 43
      | _ => false
    | _ => false
  | _ => false
theorem hOk_ok {Hp : H} (h : hOk Hp = true) : Hp.h.get 0 = some (.glob 0 handle) := by
  unfold hOk at h
  split at h
  · rename_i b0 v hg
    split at h
    · rename_i r a
      split at h
      · rename_i B o ha
        simp only [Bool.and_eq_true] at h
        obtain ⟨⟨⟨h1, h2⟩, h3⟩, h4⟩ := h
        rw [hg, Nat.eq_of_beq_eq_true h1, Nat.eq_of_beq_eq_true h2]
        have : a = #[.pointer (some ⟨B, o, none⟩)] := by apply Array.ext'; simpa using ha
        rw [this, Nat.eq_of_beq_eq_true h3, Nat.eq_of_beq_eq_true h4]
        rfl
      · cases h
    · cases h
  · cases h
def asX (vs : List V) (Hp : H) : Option (V × H) := match vs with
  | [.ifc t (.ptr k off), .ifc t2 (.ptr k2 off2)] => match Nat.beq t 96, Nat.beq t2 98, hOk Hp, Hp.h.get k2 with
    | true, true, true, some (.cells c E) => match c.get off2 with
      | some _ => some (.bool true, Hp.upd k2 (.cells (c.set off2 (.ptr k off)) E))
      | none => none
    | _, _, _, _ => none
  | _ => none
def isX (vs : List V) (Hp : H) : Option (V × H) := match vs with
  | [.ifc t (.ptr k off), .ifc t2 (.int .i64 m)] => match Nat.beq t 96, Nat.beq t2 55, rdX (Hp.h.get k) with
    | true, true, some c => match c.get off with
      | some (.int .i64 n) => some (.bool (n == m), Hp)
      | _ => none
    | _, _, _ => none
  | _ => none
def doorPr : PrimF := fun f vs Hp => match Nat.beq f 43 with
  | true => asX vs Hp
  | false => match Nat.beq f 44 with
    | true => isX vs Hp
    | false => none
theorem FPost_self {bs : Bs} {Hp : H} {M F : List (Nat × Obj)} {v : V} {v' : Value} (hm : HCov bs Hp M) (hv : RV bs v v') : FPost bs Hp M F v Hp v' (M ++ F) :=
  ⟨[], M, rfl, by simpa using hv, by simpa using hm, rfl, fun _ h => h, fun W B _ h => by simpa using h⟩
theorem setCell_row {W : World} {b off : Nat} {v : Value} {cs : Array Value} {E : TypeId} {fr : Nat × Nat} (h : W.heap[b]? = some (.cells cs E fr)) : W.setCell ⟨b, off, none⟩ v = W.setRow b (cs.setIfInBounds off v) := by
  unfold World.setCell World.setRow
  congr 1
  apply Array.ext_getElem?
  intro i
  rw [Array.getElem?_modify, Array.getElem?_modify]
  by_cases e : b = i
  · subst e; rw [if_pos rfl, if_pos rfl, h]; simp
  · rw [if_neg e, if_neg e]
theorem as_ok {Hp : H} {vs : List V} {v : V} {H2 : H} (h : asX vs Hp = some (v, H2)) : Ext Hp H2 ∧ ∀ bs M F vs', HCov bs Hp M → RVs bs vs vs' → Fn Tryd.prog 43 vs' (M ++ F) (FPost bs Hp M F v H2) := by
  unfold asX at h
  split at h
  · rename_i t k off t2 k2 off2
    split at h
    · rename_i c E g1 g2 g3 g4
      split at h
      · rename_i old g5
        cases h
        refine ⟨.upd _ _ _, fun bs M F vs' hm hvs g w hmem => ?_⟩
        obtain rfl := Nat.eq_of_beq_eq_true g1
        obtain rfl := Nat.eq_of_beq_eq_true g2
        cases hvs with
        | cons h1 hvs => cases hvs with
          | cons h2 hvs => cases hvs with
            | nil =>
              cases h1 with
              | ifc _ h1 => cases h2 with
                | ifc _ h2 =>
                  obtain ⟨b, base, av, rfl, hk⟩ := h1.ptr_inv
                  obtain ⟨b2, base2, av2, rfl, hk2⟩ := h2.ptr_inv
                  obtain ⟨b', base', av', i, o', a1, a2, a3⟩ := hm.at_ k2 _ g4
                  rw [hk2] at a1; cases a1
                  have a4 := a3
                  obtain ⟨cs, rfl, a5, a6⟩ := a4
                  obtain ⟨a7, old', a8, _⟩ := a6 off2 _ g5
                  obtain ⟨b0, base0, av0, i0, o0, c1, c2, rfl, cs0, E0, fr0, rfl, c3⟩ := hm.at_ 0 _ (hOk_ok g3)
                  have hi2 : (M ++ F)[i]? = some (b2, .cells cs E (0, 0)) := by rw [List.getElem?_append_left (List.getElem?_eq_some_iff.1 a2).1]; exact a2
                  have hi0 : (M ++ F)[i0]? = some (0, .cells cs0 E0 fr0) := by rw [List.getElem?_append_left (List.getElem?_eq_some_iff.1 c2).1]; exact c2
                  have hw2 := hmem.at_ hi2
                  have hw0 := hmem.at_ hi0
                  have hg : w.cell? ⟨0, 0, none⟩ = some handle := by rw [cell_of_row w _ 0 cs0 E0 fr0 hw0]; exact c3
                  have ht : w.cell? ⟨b2, base2 + off2, none⟩ = some old' := by rw [cell_of_row w b2 (base2 + off2) cs E (0, 0) hw2]; exact a8
                  have hf : w.frozen? ⟨b2, base2 + off2, none⟩ = false := by
                    simp [World.frozen?, hw2]
                  have hlt : b2 < w.heap.size := hmem.lt _ (List.mem_of_getElem? hi2)
                  refine (as_hit ⟨b, base + off, none⟩ ⟨b2, base2 + off2, none⟩ old' w hg ht hf).mono fun e w' ⟨he, hw'⟩ => ?_
                  have hm4 := (((hmem.alloc (.cells #[.pointer (some ⟨b2, base2 + off2, none⟩)] 98)).alloc (.cells #[.pointer (some ⟨1, 98, none⟩), .pointer (some ⟨w.heap.size, 0, none⟩), .int .u64 150] 131)).alloc (.cells #[.pointer (some ⟨1, 98, none⟩), .pointer (some ⟨w.heap.size, 0, none⟩), .int .u64 150] 131)).alloc (.cells #[.pointer (some ⟨b, base + off, none⟩)] 96)
                  have hm5 : Mem g (M ++ F) _ := hm4.sublist ((((List.sublist_cons_self _ _).trans (List.sublist_cons_self _ _)).trans (List.sublist_cons_self _ _)).trans (List.sublist_cons_self _ _))
                  have hset := hm5.setRow hi2 (cs.setIfInBounds (base2 + off2) (.pointer (some ⟨b, base + off, none⟩)))
                  have hL : (M ++ F).set i (b2, .cells (cs.setIfInBounds (base2 + off2) (.pointer (some ⟨b, base + off, none⟩))) E (0, 0)) = M.set i (b2, .cells (cs.setIfInBounds (base2 + off2) (.pointer (some ⟨b, base + off, none⟩))) E (0, 0)) ++ F := List.set_append_left _ _ (List.getElem?_eq_some_iff.1 a2).1
                  have hRO : RO bs b2 base2 av2 (.cells (c.set off2 (.ptr k off)) E) (.cells (cs.setIfInBounds (base2 + off2) (.pointer (some ⟨b, base + off, none⟩))) E (0, 0)) := by
                    refine ⟨_, rfl, by rw [Array.size_setIfInBounds]; exact a5, fun j u hj => ?_⟩
                    rcases T.get_set hj with ⟨rfl, rfl⟩ | ⟨hne, hj⟩
                    · refine ⟨a7, .pointer (some ⟨b, base + off, none⟩), ?_, .ptr hk⟩
                      have : base2 + j < cs.size := by omega
                      simp [this]
                    · obtain ⟨q1, q2, q3, q4⟩ := a6 j u hj
                      refine ⟨q1, q2, ?_, q4⟩
                      rw [Array.getElem?_setIfInBounds_ne (by omega)]; exact q3
                  have hnod : ((M ++ F).map Prod.fst).Nodup := hmem.nodup
                  have hpost := Post_upd (bs := bs) (s := noS) (Hp := ⟨Hp.h, Hp.n, Hp.log, []⟩) (M := M) (F := F) (σ := ⟨[], [], M ++ F⟩) (s2 := noS) (k := k2) (ob := .cells c E) (σ' := ⟨[], [], (M ++ F).set i (b2, .cells (cs.setIfInBounds (base2 + off2) (.pointer (some ⟨b, base + off, none⟩))) E (0, 0))⟩) ⟨covS_none, rfl, ⟨hm.n, hm.at_, hm.inj⟩, rfl⟩ hnod g4 hk2 a2 hRO covS_none rfl rfl
                  obtain ⟨r, M', f1, f2, f3, f4, f5, f6⟩ := hpost
                  refine ⟨.bool true, _, he, ?_, r, M', f2, .bool true, ⟨f4.n, f4.at_, f4.inj⟩, rfl, f5, f6⟩
                  rw [hw']
                  rw [setCell_row (hm5.at_ hi2)]
                  exact hset
      · cases h
    · cases h
  · cases h
theorem is_ok {Hp : H} {vs : List V} {v : V} {H2 : H} (h : isX vs Hp = some (v, H2)) : Ext Hp H2 ∧ ∀ bs M F vs', HCov bs Hp M → RVs bs vs vs' → Fn Tryd.prog 44 vs' (M ++ F) (FPost bs Hp M F v H2) := by
  unfold isX at h
  split at h
  · rename_i t k off t2 m
    split at h
    · rename_i c g1 g2 g3
      split at h
      · rename_i n g5
        cases h
        refine ⟨.refl _, fun bs M F vs' hm hvs g w hmem => ?_⟩
        obtain rfl := Nat.eq_of_beq_eq_true g1
        obtain rfl := Nat.eq_of_beq_eq_true g2
        cases hvs with
        | cons h1 hvs => cases hvs with
          | cons h2 hvs => cases hvs with
            | nil =>
              cases h1 with
              | ifc _ h1 => cases h2 with
                | ifc _ h2 =>
                  cases h2
                  obtain ⟨b, base, av, rfl, hk⟩ := h1.ptr_inv
                  obtain ⟨ob, hob, hrd⟩ := rdX_ok (bs := bs) (b := b) (base := base) (av := av) g3
                  obtain ⟨b', base', av', i, o', a1, a2, a3⟩ := hm.at_ k _ hob
                  rw [hk] at a1; cases a1
                  obtain ⟨cs, E, fr, rfl, a5, a6⟩ := hrd a3
                  obtain ⟨a7, n', a8, a9⟩ := a6 off _ g5
                  cases a9
                  have hi2 : (M ++ F)[i]? = some (b, .cells cs E fr) := by rw [List.getElem?_append_left (List.getElem?_eq_some_iff.1 a2).1]; exact a2
                  have ht : w.cell? ⟨b, base + off, none⟩ = some (.int .i64 n) := by rw [cell_of_row w b (base + off) cs E fr (hmem.at_ hi2)]; exact a8
                  refine (Is_hit b (base + off) n m w ht).mono fun e w' ⟨he, hw'⟩ => ?_
                  subst hw'
                  exact ⟨_, _, he, hmem, FPost_self hm (.bool _)⟩
      · cases h
    · cases h
  · cases h
theorem doorPr_ok : PrimOk Tryd.prog doorPr := by
  refine ⟨fun f vs Hp v H2 h => ?_, fun f vs Hp v H2 h => ?_, fun f vs Hp v H2 h bs M F vs' hm hvs => ?_⟩
  · unfold doorPr at h
    split at h
    · exact (as_ok h).1
    · split at h
      · exact (is_ok h).1
      · cases h
  · unfold doorPr at h
    split at h
    · rename_i e; rw [Nat.eq_of_beq_eq_true e]; infer_instance
    · split at h
      · rename_i e; rw [Nat.eq_of_beq_eq_true e]; infer_instance
      · cases h
  · unfold doorPr at h
    split at h
    · rename_i e; rw [Nat.eq_of_beq_eq_true e]; exact (as_ok h).2 bs M F vs' hm hvs
    · split at h
      · rename_i e; rw [Nat.eq_of_beq_eq_true e]; exact (is_ok h).2 bs M F vs' hm hvs
      · cases h
def doorH : H := ⟨(T.e).set 0 (.glob 0 handle), 1, [], []⟩
theorem doorH_cov {cs : Array Value} {E : TypeId} {fr : Nat × Nat} (h : cs[0]? = some handle) : HCov [(0, 0, 0)] doorH [(0, .cells cs E fr)] := by
  have key : ∀ {k : Nat} {o : O}, doorH.h.get k = some o → k = 0 ∧ o = .glob 0 handle := fun {k o} hk => by
    rcases T.get_set hk with ⟨h1, h2⟩ | ⟨_, h2⟩
    · exact ⟨h1, h2.symm⟩
    · cases h2
  refine ⟨rfl, fun k o hk => ?_, fun j k o o' b x y x' y' hj hk _ _ => ?_⟩
  · obtain ⟨rfl, rfl⟩ := key hk
    exact ⟨_, 0, 0, 0, _, rfl, rfl, rfl, cs, E, fr, rfl, h⟩
  · rw [(key hj).1, (key hk).1]
theorem doorH_zero : ∀ k o, doorH.h.get k = some o → k = 0 := fun k o hk => by
  rcases T.get_set hk with ⟨h1, _⟩ | ⟨_, h2⟩
  · exact h1
  · cases h2
end
end Go.Proofs.YtakedlockchpcaaDoor
namespace Go.Proofs.YtakedlockchpcaaDoor
open Go.RowKit
def HandleIn (L : List (Nat × Obj)) : Prop := ∃ cs E fr, (0, Obj.cells cs E fr) ∈ L ∧ cs[0]? = some handle
theorem HandleIn.cons {L : List (Nat × Obj)} (p : Nat × Obj) (h : HandleIn L) : HandleIn (p :: L) := by
  obtain ⟨cs, E, fr, h1, h2⟩ := h
  exact ⟨cs, E, fr, List.mem_cons_of_mem _ h1, h2⟩
end Go.Proofs.YtakedlockchpcaaDoor
namespace Go.Proofs.YtakedlockchpcaaDoor
open Go.RowKit
attribute [local irreducible] Fn WC WL WR OW Qt YieldFn QW FnP FnD
theorem fault_und : Tryd.prog.underlying 64 = some (.struct (Tryd.prog.fieldsOf 64)) := by kernel_rfl
theorem fault_held : Tryd.prog.stoodInHeld 64 = false := by kernel_rfl
theorem fault_guard : Tryd.prog.eqGuardType Tryd.prog.depth 64 = false := by kernel_rfl
theorem fault_self (a b : Int) (w : World) : (Op.equalIn 10000 64 (.agg #[.int .i64 a, .int .i64 b]) (.agg #[.int .i64 a, .int .i64 b])).run Tryd.prog w = .ok true w := by
  rw [run_equalIn_agg w 9999 _ _ _ fault_und fault_held]
  have e1 := fun d => run_equalIn_int (P := Tryd.prog) w d 55 .i64 .i64 a a Tryd.underlying55
  have e2 := fun d => run_equalIn_int (P := Tryd.prog) w d 3 .i64 .i64 b b Tryd.underlying3
  simp only [beq_self_eq_true] at e1 e2
  have hf : (Tryd.prog.fieldsOf 64).toList.map (fun f => (f.type, f.offset, f.name == "_")) = [(55, 0, false), (3, 1, false)] := by kernel_rfl
  generalize (Tryd.prog.fieldsOf 64).toList = fs at hf
  obtain ⟨f0, f1, rfl⟩ : ∃ f0 f1, fs = [f0, f1] := by
    have h := congrArg List.length hf
    rw [List.length_map] at h
    match fs, h with
    | [f0, f1], _ => exact ⟨f0, f1, rfl⟩
  simp only [List.map_cons, List.map_nil, List.cons.injEq, Prod.mk.injEq, and_true] at hf
  obtain ⟨⟨t0, o0, n0⟩, t1, o1, n1⟩ := hf
  have a0 : ∀ w, (isAgg 55).run Tryd.prog w = .ok false w := Tryd.isAgg55
  have a1 : ∀ w, (isAgg 3).run Tryd.prog w = .ok false w := Tryd.isAgg3
  simp [Op.eqFields, part, t0, o0, t1, o1, a0, a1, e1, e2]
theorem Qt_eql_struct {g : World} {N n : Nat} {r : Option Nat} {s : List (Nat × Value)} {L : List (Nat × Obj)} {o : Oper} {x y : Operand} {t' : TypeId} {a b : Int} (ho : o.op = .binOp .eql 64 x y t') (hx : ev s x = some (.agg #[.int .i64 a, .int .i64 b]) := by exact rfl) (hy : ev s y = some (.agg #[.int .i64 a, .int .i64 b]) := by exact rfl) : Qt ⟨Tryd.prog, g, N, n, r⟩ s L o (.bool true) :=
  Qt_eql_struct' ho hx hy fault_guard (fault_self a b)
theorem as_fn {L : List (Nat × Obj)} (hH : HandleIn L) {t : Nat} {e : Addr} {old : Value} {E : TypeId} {i : Nat} (hi : L[i]? = some (t, .cells #[old] E (0, 0))) :
    Fn Tryd.prog 43 [.iface 96 (.pointer (some e)), .iface 98 (.pointer (some ⟨t, 0, none⟩))] L (fun v L' => v = .bool true ∧ L' = L.set i (t, .cells #[.pointer (some e)] E (0, 0))) := by
  unfold Fn
  intro g w hm
  obtain ⟨cs, E0, fr, h1, h2⟩ := hH
  have hw0 := hm.has _ h1
  have hg : w.cell? ⟨0, 0, none⟩ = some handle := by rw [cell_of_row w _ 0 cs E0 fr hw0]; exact h2
  have ht : w.cell? ⟨t, 0, none⟩ = some old := by rw [cell_of_row w t 0 #[old] E (0, 0) (hm.at_ hi)]; rfl
  have hf : w.frozen? ⟨t, 0, none⟩ = false := by simp [World.frozen?, hm.at_ hi]
  refine (as_hit e ⟨t, 0, none⟩ old w hg ht hf).mono fun ev' w' ⟨he, hw'⟩ => ?_
  have hm4 := (((hm.alloc (.cells #[.pointer (some ⟨t, 0, none⟩)] 98)).alloc (.cells #[.pointer (some ⟨1, 98, none⟩), .pointer (some ⟨w.heap.size, 0, none⟩), .int .u64 150] 131)).alloc (.cells #[.pointer (some ⟨1, 98, none⟩), .pointer (some ⟨w.heap.size, 0, none⟩), .int .u64 150] 131)).alloc (.cells #[.pointer (some e)] 96)
  have hm5 : Mem g L _ := hm4.sublist ((((List.sublist_cons_self _ _).trans (List.sublist_cons_self _ _)).trans (List.sublist_cons_self _ _)).trans (List.sublist_cons_self _ _))
  have hset := hm5.setRow hi (#[old].setIfInBounds 0 (.pointer (some e)))
  refine ⟨.bool true, _, he, ?_, rfl, rfl⟩
  rw [hw', setCell_row (hm5.at_ hi)]
  exact hset
theorem Is_fn {L : List (Nat × Obj)} {p : Nat} {n m : Int} {x : Value} {E : TypeId} {fr : Nat × Nat} {i : Nat} (hi : L[i]? = some (p, .cells #[.int .i64 n, x] E fr)) :
    Fn Tryd.prog 44 [.iface 96 (.pointer (some ⟨p, 0, none⟩)), .iface 55 (.int .i64 m)] L (fun v L' => v = .bool (n == m) ∧ L' = L) := by
  unfold Fn
  intro g w hm
  have ht : w.cell? ⟨p, 0, none⟩ = some (.int .i64 n) := by rw [cell_of_row w p 0 _ E fr (hm.at_ hi)]; rfl
  refine (Is_hit p 0 n m w ht).mono fun e w' ⟨he, hw'⟩ => ?_
  subst hw'
  exact ⟨_, _, he, hm, rfl, rfl⟩
theorem bNext_le {l : List UInt8} {a : Nat} (h : bCode l a = 0) : a + 1 ≤ l.length := by
  unfold bCode at h
  split at h
  · omega
  · cases h
theorem tNext_le {l : List UInt8} {a : Nat} (h : tCode l a = 0) : a + 1 ≤ l.length := by
  unfold tCode at h
  split at h
  · omega
  · cases h
end Go.Proofs.YtakedlockchpcaaDoor
namespace Go.Proofs.YtakedlockchpcaaDoor
open Go.RowKit
theorem ofNat_hi {d : Nat} (h : d < 128) : (UInt8.ofNat (d + 128)).toNat = d + 128 := by simp only [UInt8.toNat_ofNat']; omega
theorem ofNat_lo {d : Nat} (h : d < 128) : (UInt8.ofNat d).toNat = d := by simp only [UInt8.toNat_ofNat']; omega
theorem encH_ge (n : Nat) : ∀ u ∈ encH n, 128 ≤ u.toNat := by
  induction n using Nat.strongRecOn with
  | _ n ih =>
    by_cases h : n = 0
    · subst h; rw [encH_zero]; simp
    · rw [encH_pos h]
      intro u hu
      rcases List.mem_append.1 hu with hu | hu
      · exact ih (n / 128) (by omega) u hu
      · simp only [List.mem_singleton] at hu
        subst hu
        rw [ofNat_hi (by omega)]; omega
theorem takeWhile_stop {p : UInt8 → Bool} : ∀ (a : List UInt8) (u : UInt8) (r : List UInt8), (∀ x ∈ a, p x = true) → p u = false → (a ++ u :: r).takeWhile p = a
  | [], u, r, _, h => by simp [h]
  | x :: a, u, r, h1, h2 => by
    rw [List.cons_append, List.takeWhile_cons_of_pos (h1 x (by simp)), takeWhile_stop a u r (fun y hy => h1 y (by simp [hy])) h2]
theorem cont_enc {pre post : List UInt8} {n : Nat} : cont (pre ++ (enc n ++ post)) pre.length = (encH (n / 128)).length := by
  unfold cont
  rw [List.drop_left, enc, List.append_assoc, List.singleton_append, takeWhile_stop]
  · intro x hx; simpa using encH_ge _ x hx
  · rw [ofNat_lo (by omega)]; simp; omega
theorem encH_head : ∀ (m : Nat), m ≠ 0 → ∃ d rest, encH m = UInt8.ofNat (d + 128) :: rest ∧ 1 ≤ d ∧ d < 128 ∧ d * 128 ^ rest.length ≤ m := by
  intro m
  induction m using Nat.strongRecOn with
  | _ m ih =>
    intro h
    rw [encH_pos h]
    by_cases h0 : m / 128 = 0
    · rw [h0, encH_zero]
      exact ⟨m % 128, [], rfl, by omega, by omega, by simp; omega⟩
    · obtain ⟨d, rest, e, h1, h2, h3⟩ := ih (m / 128) (by omega) h0
      refine ⟨d, rest ++ [UInt8.ofNat (m % 128 + 128)], by rw [e]; rfl, h1, h2, ?_⟩
      rw [List.length_append, List.length_singleton, Nat.pow_succ, ← Nat.mul_assoc]
      calc d * 128 ^ rest.length * 128 ≤ m / 128 * 128 := Nat.mul_le_mul_right _ h3
        _ ≤ m := by omega
theorem val_encH (m : Nat) (h : m < 18446744073709551616) : val (encH m) = m := by
  induction m using Nat.strongRecOn with
  | _ m ih =>
    by_cases h0 : m = 0
    · subst h0; rw [encH_zero]; rfl
    · rw [encH_pos h0, val_snoc, ih (m / 128) (by omega) (by omega), ofNat_hi (by omega)]
      omega
theorem val_enc {n : Nat} (h : n < 18446744073709551616) : val (enc n) = n := by
  rw [enc, val_snoc, val_encH _ (by omega), ofNat_lo (by omega)]
  omega
theorem read_enc {pre post : List UInt8} {n : Nat} (h : n < 18446744073709551616) :
    uCode (pre ++ (enc n ++ post)) pre.length = 0 ∧ uVal (pre ++ (enc n ++ post)) pre.length = n ∧ uNext (pre ++ (enc n ++ post)) pre.length = (pre ++ enc n).length := by
  have hc := cont_enc (pre := pre) (post := post) (n := n)
  have hl := enc_len h
  have hle : (enc n).length = (encH (n / 128)).length + 1 := by simp [enc]
  refine ⟨?_, ?_, ?_⟩
  · unfold uCode
    rw [hc, if_neg (by simp; omega)]
    have hfirst : (pre ++ (enc n ++ post))[pre.length]? = (enc n ++ post)[0]? := by rw [List.getElem?_append_right (Nat.le_refl _), Nat.sub_self]
    rw [hfirst]
    by_cases h0 : n / 128 = 0
    · rw [enc, h0, encH_zero]
      have hne : UInt8.ofNat (n % 128) ≠ 128 := fun e => by
        have := congrArg UInt8.toNat e
        rw [ofNat_lo (by omega)] at this
        simp at this; omega
      rw [if_neg (by simpa using hne), if_pos (.inl (by simp))]
    · obtain ⟨d, rest, e, h1, h2, h3⟩ := encH_head (n / 128) h0
      have hne : UInt8.ofNat (d + 128) ≠ 128 := fun e => by
        have := congrArg UInt8.toNat e
        rw [ofNat_hi h2] at this
        simp at this; omega
      have hf : (enc n ++ post)[0]? = some (UInt8.ofNat (d + 128)) := by rw [enc, e]; rfl
      rw [hf, if_neg (by simpa using hne), if_pos]
      by_cases hlen : (encH (n / 128)).length + 1 < 10
      · exact .inl hlen
      · right
        refine ⟨by omega, ?_⟩
        have hr : rest.length = 8 := by rw [e] at hlen hle; simp at hlen hle; omega
        rw [hr] at h3
        have hd : d * 72057594037927936 ≤ n / 128 := h3
        have : d = 1 := by omega
        rw [this]; rfl
  · unfold uVal
    rw [hc, List.drop_left, ← hle, List.take_left, val_enc h]
  · unfold uNext
    rw [hc]; simp; omega
def vexact (xs : List UInt8) : Nat := xs.foldl (fun n u => n * 128 + u.toNat % 128) 0
theorem vexact_snoc (xs : List UInt8) (u : UInt8) : vexact (xs ++ [u]) = vexact xs * 128 + u.toNat % 128 := by unfold vexact; rw [List.foldl_append]; rfl
theorem list_rec {α : Type} {P : List α → Prop} (h0 : P []) (h1 : ∀ xs u, P xs → P (xs ++ [u])) (xs : List α) : P xs := by
  have : ∀ ys : List α, P ys.reverse := by
    intro ys
    induction ys with
    | nil => exact h0
    | cons y ys ih => rw [List.reverse_cons]; exact h1 _ _ ih
  have h := this xs.reverse
  rwa [List.reverse_reverse] at h
theorem val_vexact (xs : List UInt8) : val xs = vexact xs % 18446744073709551616 := by
  refine list_rec (P := fun xs => val xs = vexact xs % 18446744073709551616) rfl (fun xs u h => ?_) xs
  rw [val_snoc, vexact_snoc, h]; omega
theorem vexact_lt (xs : List UInt8) : vexact xs < 128 ^ xs.length := by
  refine list_rec (P := fun xs => vexact xs < 128 ^ xs.length) (by decide) (fun xs u h => ?_) xs
  rw [vexact_snoc, List.length_append, List.length_singleton, Nat.pow_succ]
  have := Nat.mod_lt u.toNat (show 0 < 128 by decide)
  omega
theorem vexact_cons (u : UInt8) (xs : List UInt8) : vexact (u :: xs) = u.toNat % 128 * 128 ^ xs.length + vexact xs := by
  refine list_rec (P := fun xs => vexact (u :: xs) = u.toNat % 128 * 128 ^ xs.length + vexact xs) (by simp [vexact]) (fun xs w h => ?_) xs
  rw [← List.cons_append, vexact_snoc, h, vexact_snoc, List.length_append, List.length_singleton, Nat.pow_succ, Nat.add_mul, Nat.mul_assoc]
  omega
theorem encH_back : ∀ (ys : List UInt8), (∀ u ∈ ys, 128 ≤ u.toNat) → ys.head? ≠ some 128 → encH (vexact ys) = ys := by
  intro ys
  refine list_rec (P := fun ys => (∀ u ∈ ys, 128 ≤ u.toNat) → ys.head? ≠ some 128 → encH (vexact ys) = ys) (fun _ _ => by unfold vexact; rw [List.foldl_nil, encH_zero]) (fun zs w ih hge hh => ?_) ys
  have hw := hge w (by simp)
  have hw2 := w.toNat_lt
  have hback : UInt8.ofNat (w.toNat % 128 + 128) = w := UInt8.toNat_inj.1 (by rw [ofNat_hi (by omega)]; omega)
  cases zs with
  | nil =>
    have hne : w.toNat ≠ 128 := fun e => hh (by rw [show w = 128 from UInt8.toNat_inj.1 (by simpa using e)]; rfl)
    have e : vexact ([] ++ [w]) = w.toNat % 128 := by simp [vexact]
    rw [e, encH_pos (by omega), show w.toNat % 128 / 128 = 0 by omega, encH_zero, Nat.mod_mod, hback]
  | cons z zs =>
    have h1 := ih (fun u hu => hge u (by simp at hu ⊢; rcases hu with h | h <;> simp [h])) hh
    have h0 : vexact (z :: zs) ≠ 0 := fun e => by rw [e, encH_zero] at h1; cases h1
    rw [vexact_snoc, encH_pos (by omega), show (vexact (z :: zs) * 128 + w.toNat % 128) / 128 = vexact (z :: zs) by omega, h1, show (vexact (z :: zs) * 128 + w.toNat % 128) % 128 = w.toNat % 128 by omega, hback]
theorem enc_read {l : List UInt8} {a : Nat} (h : uCode l a = 0) : enc (uVal l a) = (l.drop a).take (cont l a + 1) := by
  have hcd := h
  unfold uCode at h
  split at h
  · cases h
  · rename_i hlen
    split at h
    · cases h
    · rename_i hne
      split at h
      · rename_i hm
        obtain ⟨u, hu⟩ : ∃ u, l[a + cont l a]? = some u := ⟨_, List.getElem?_eq_getElem (by omega)⟩
        have hu128 := cont_end hu
        have hsplit : (l.drop a).take (cont l a + 1) = (l.drop a).take (cont l a) ++ [u] := by
          rw [List.take_add_one, List.getElem?_drop, hu]; rfl
        have hys : ∀ y ∈ (l.drop a).take (cont l a), 128 ≤ y.toNat := by
          intro y hy
          obtain ⟨j, hj⟩ := List.mem_iff_getElem?.1 hy
          have hjc : j < cont l a := by
            have := (List.getElem?_eq_some_iff.1 hj).1
            simp at this; omega
          obtain ⟨x, hx, hx2⟩ := cont_lt hjc
          rw [List.getElem?_take_of_lt hjc, List.getElem?_drop, hx] at hj
          cases hj; exact hx2
        have hhead : ((l.drop a).take (cont l a)).head? ≠ some 128 := by
          intro e
          rw [List.head?_eq_getElem?] at e
          have hc0 : 0 < cont l a := by
            have := (List.getElem?_eq_some_iff.1 e).1
            simp at this; omega
          rw [List.getElem?_take_of_lt hc0, List.getElem?_drop, Nat.add_zero] at e
          exact hne e
        have hb := encH_back _ hys hhead
        have hll : ((l.drop a).take (cont l a)).length = cont l a := by simp; omega
        have hex : vexact ((l.drop a).take (cont l a + 1)) < 18446744073709551616 := by
          rcases hm with hm | ⟨hm, hm2⟩
          · have := vexact_lt ((l.drop a).take (cont l a + 1))
            rw [hsplit, List.length_append, hll, List.length_singleton] at this
            rw [hsplit]
            have hp : 128 ^ (cont l a + 1) ≤ 128 ^ 9 := Nat.pow_le_pow_right (by decide) (by omega)
            have : (128 : Nat) ^ 9 = 9223372036854775808 := rfl
            omega
          · obtain ⟨r, hr⟩ : ∃ r, (l.drop a).take (cont l a + 1) = 129 :: r := by
              cases hq : (l.drop a).take (cont l a + 1) with
              | nil => rw [hsplit] at hq; simp at hq
              | cons y r =>
                have h0 : ((l.drop a).take (cont l a + 1))[0]? = some y := by rw [hq]; rfl
                rw [List.getElem?_take_of_lt (by omega), List.getElem?_drop, Nat.add_zero, hm2] at h0
                cases h0; exact ⟨r, rfl⟩
            have hrl : r.length = 9 := by
              have := congrArg List.length hr
              rw [hsplit, List.length_append, hll] at this
              simp at this; omega
            rw [hr, vexact_cons, hrl]
            have h3 := vexact_lt r
            rw [hrl] at h3
            have h4 : (128 : Nat) ^ 9 = 9223372036854775808 := rfl
            rw [h4] at h3 ⊢
            have h5 : (129 : UInt8).toNat % 128 = 1 := by decide
            rw [h5]; omega
        have hv : uVal l a = vexact ((l.drop a).take (cont l a + 1)) := by
          unfold uVal; rw [val_vexact, Nat.mod_eq_of_lt hex]
        rw [hv, hsplit, vexact_snoc, enc, show (vexact ((l.drop a).take (cont l a)) * 128 + u.toNat % 128) / 128 = vexact ((l.drop a).take (cont l a)) by omega, hb]
        congr 1
        rw [show (vexact ((l.drop a).take (cont l a)) * 128 + u.toNat % 128) % 128 = u.toNat by omega, UInt8.ofNat_toNat]
      · cases h
theorem whole_zz {x : Int} (h0 : -9223372036854775808 ≤ x) (h1 : x < 9223372036854775808) : whole (zz x) = x := by
  unfold zz
  split
  · unfold whole; rw [if_pos (by omega)]; omega
  · unfold whole; rw [if_neg (by omega)]; omega
end Go.Proofs.YtakedlockchpcaaDoor
namespace Go.Proofs.YtakedlockchpcaaDoor
open Go.RowKit
inductive Fk where
  | ww | nn | kk | tt | bb
def Fk.enc : Fk → Value → List UInt8
  | .ww, .int _ x => Go.Proofs.YtakedlockchpcaaDoor.enc (zz x)
  | .nn, .int _ x => Go.Proofs.YtakedlockchpcaaDoor.enc x.toNat
  | .kk, .int _ x => Go.Proofs.YtakedlockchpcaaDoor.enc x.toNat
  | .tt, .bool x => encB x
  | .bb, .int _ x => [UInt8.ofNat x.toNat]
  | _, _ => []
def Fk.ok : Fk → Value → Prop
  | .ww, v => ∃ x : Int, v = .int .i64 x ∧ -9223372036854775808 ≤ x ∧ x < 9223372036854775808
  | .nn, v => ∃ x : Int, v = .int .u64 x ∧ 0 ≤ x ∧ x < 18446744073709551616
  | .kk, v => ∃ x : Int, v = .int .u32 x ∧ 0 ≤ x ∧ x < 4294967296
  | .tt, v => ∃ x : Bool, v = .bool x
  | .bb, v => ∃ x : UInt8, v = bV x
inductive PR (α : Type) where
  | ok (x : α) (next : Nat)
  | bad (code at_ : Nat)
def PR.bind {α β : Type} (r : PR α) (f : α → Nat → PR β) : PR β := match r with
  | .ok x n => f x n
  | .bad c a => .bad c a
def Fk.pr (l : List UInt8) (a : Nat) : Fk → PR Value
  | .ww => if uCode l a = 0 then .ok (.int .i64 (whole (uVal l a))) (uNext l a) else .bad (uCode l a) a
  | .nn => if uCode l a = 0 then .ok (.int .u64 (uVal l a)) (uNext l a) else .bad (uCode l a) a
  | .kk => if uCode l a = 0 then (if uVal l a < 4294967296 then .ok (.int .u32 (uVal l a)) (uNext l a) else .bad 4 a) else .bad (uCode l a) a
  | .tt => if tCode l a = 0 then .ok (.bool ((bVal l a).toNat == 1)) (a + 1) else .bad (tCode l a) a
  | .bb => if bCode l a = 0 then .ok (bV (bVal l a)) (a + 1) else .bad (bCode l a) a
def encs : List Fk → List Value → List UInt8
  | f :: fs, v :: vs => f.enc v ++ encs fs vs
  | _, _ => []
def Oks : List Fk → List Value → Prop
  | [], [] => True
  | f :: fs, v :: vs => f.ok v ∧ Oks fs vs
  | _, _ => False
def prs (l : List UInt8) : List Fk → Nat → PR (List Value)
  | [], a => .ok [] a
  | f :: fs, a => (f.pr l a).bind fun v a' => (prs l fs a').bind fun vs a'' => .ok (v :: vs) a''
def prn (l : List UInt8) (es : List Fk) : Nat → Nat → PR (List (List Value))
  | 0, a => .ok [] a
  | n + 1, a => (prs l es a).bind fun v a' => (prn l es n a').bind fun vs a'' => .ok (v :: vs) a''
def prl (l : List UInt8) (most : Nat) (es : List Fk) (a : Nat) : PR (List (List Value)) :=
  (Fk.nn.pr l a).bind fun _ a' => if uVal l a ≤ most then prn l es (uVal l a) a' else .bad 4 a
def encl (es : List Fk) (vss : List (List Value)) : List UInt8 := enc vss.length ++ vss.flatMap (encs es)
theorem Oks.len : ∀ {fs : List Fk} {vs : List Value}, Oks fs vs → vs.length = fs.length
  | [], [], _ => rfl
  | _ :: _, _ :: _, h => by simp [Oks.len h.2]
  | [], _ :: _, h => h.elim
  | _ :: _, [], h => h.elim
theorem Oks.app : ∀ {fs gs : List Fk} {vs us : List Value}, Oks fs vs → Oks gs us → Oks (fs ++ gs) (vs ++ us)
  | [], _, [], _, _, h => h
  | _ :: _, _, _ :: _, _, h1, h2 => ⟨h1.1, Oks.app h1.2 h2⟩
  | [], _, _ :: _, _, h, _ => h.elim
  | _ :: _, _, [], _, h, _ => h.elim
theorem PR.bind_ok {α β : Type} {r : PR α} {f : α → Nat → PR β} {y : β} {b : Nat} (h : r.bind f = .ok y b) : ∃ x a, r = .ok x a ∧ f x a = .ok y b := by
  cases r with
  | ok x a => exact ⟨x, a, rfl, h⟩
  | bad c a => cases h
theorem prs_app (l : List UInt8) : ∀ (fs gs : List Fk) (a : Nat), prs l (fs ++ gs) a = (prs l fs a).bind fun vs a' => (prs l gs a').bind fun us a'' => .ok (vs ++ us) a''
  | [], gs, a => by
    simp only [List.nil_append, prs, PR.bind]
    cases prs l gs a <;> rfl
  | f :: fs, gs, a => by
    simp only [List.cons_append, prs]
    cases f.pr l a with
    | bad c a => rfl
    | ok v a' =>
      simp only [PR.bind]
      rw [prs_app l fs gs a']
      cases prs l fs a' with
      | bad c a => rfl
      | ok vs a'' =>
        simp only [PR.bind]
        cases prs l gs a'' <;> rfl
theorem zz_whole {n : Nat} : zz (whole n) = n := by
  unfold whole
  split
  · unfold zz; rw [if_pos (by omega)]; omega
  · unfold zz; rw [if_neg (by omega)]; omega
theorem whole_rng {n : Nat} (h : n < 18446744073709551616) : -9223372036854775808 ≤ whole n ∧ whole n < 9223372036854775808 := by
  unfold whole; split <;> omega
def cut (l : List UInt8) (a b : Nat) : List UInt8 := (l.drop a).take (b - a)
theorem cut_app {l : List UInt8} {a b c : Nat} (h1 : a ≤ b) (h2 : b ≤ c) : cut l a b ++ cut l b c = cut l a c := by
  unfold cut
  rw [show c - a = (b - a) + (c - b) by omega, List.take_add, List.drop_drop]
  congr 3
  omega
theorem cut_self (l : List UInt8) (a : Nat) : cut l a a = [] := by unfold cut; simp
theorem byte_cut {l : List UInt8} {a : Nat} (h : a < l.length) : cut l a (a + 1) = [bVal l a] := by
  unfold cut bVal
  rw [show a + 1 - a = 1 by omega, List.getElem?_eq_getElem h, List.drop_eq_getElem_cons h]
  rfl
def Went (l : List UInt8) (ok : Prop) (bs : List UInt8) (a b : Nat) : Prop := ok ∧ a ≤ b ∧ b ≤ l.length ∧ bs = cut l a b
theorem u_went {l : List UInt8} {a : Nat} (h : uCode l a = 0) : a ≤ uNext l a ∧ uNext l a ≤ l.length ∧ enc (uVal l a) = cut l a (uNext l a) := by
  refine ⟨by unfold uNext; omega, uNext_le h, ?_⟩
  rw [enc_read h]
  unfold cut uNext
  congr 1
  omega
theorem pr_went {l : List UInt8} {a b : Nat} {f : Fk} {v : Value} (h : f.pr l a = .ok v b) : Went l (f.ok v) (f.enc v) a b := by
  have hv := val_lt ((l.drop a).take (cont l a + 1))
  cases f with
  | ww =>
    simp only [Fk.pr] at h
    split at h
    · rename_i hc
      cases h
      obtain ⟨h1, h2, h3⟩ := u_went hc
      refine ⟨⟨_, rfl, whole_rng hv⟩, h1, h2, ?_⟩
      show enc (zz (whole (uVal l a))) = _
      rw [zz_whole, h3]
    · cases h
  | nn =>
    simp only [Fk.pr] at h
    split at h
    · rename_i hc
      cases h
      obtain ⟨h1, h2, h3⟩ := u_went hc
      refine ⟨⟨_, rfl, by omega, by unfold uVal; omega⟩, h1, h2, ?_⟩
      show enc ((uVal l a : Nat) : Int).toNat = _
      rw [Int.toNat_natCast, h3]
    · cases h
  | kk =>
    simp only [Fk.pr] at h
    split at h
    · rename_i hc
      split at h
      · cases h
        obtain ⟨h1, h2, h3⟩ := u_went hc
        refine ⟨⟨_, rfl, by omega, by omega⟩, h1, h2, ?_⟩
        show enc ((uVal l a : Nat) : Int).toNat = _
        rw [Int.toNat_natCast, h3]
      · cases h
    · cases h
  | tt =>
    simp only [Fk.pr] at h
    split at h
    · rename_i hc
      cases h
      unfold tCode at hc
      split at hc
      · rename_i hlt
        split at hc
        · rename_i h1
          refine ⟨⟨_, rfl⟩, by omega, by omega, ?_⟩
          rw [byte_cut hlt]
          show encB ((bVal l a).toNat == 1) = _
          by_cases h0 : (bVal l a).toNat = 1
          · rw [show ((bVal l a).toNat == 1) = true by simpa using h0]
            show [1] = _
            congr 1
            exact (UInt8.toNat_inj.1 (by rw [h0]; rfl)).symm
          · rw [show ((bVal l a).toNat == 1) = false by simpa using h0]
            show [0] = _
            congr 1
            exact (UInt8.toNat_inj.1 (show (bVal l a).toNat = 0 by omega)).symm
        · cases hc
      · cases hc
    · cases h
  | bb =>
    simp only [Fk.pr] at h
    split at h
    · rename_i hc
      cases h
      have hlt := bNext_le hc
      refine ⟨⟨_, rfl⟩, by omega, by omega, ?_⟩
      rw [byte_cut (by omega)]
      show [UInt8.ofNat ((bVal l a).toNat : Int).toNat] = _
      rw [Int.toNat_natCast, UInt8.ofNat_toNat]
    · cases h
theorem prs_went {l : List UInt8} : ∀ {fs : List Fk} {a b : Nat} {vs : List Value}, a ≤ l.length → prs l fs a = .ok vs b → Went l (Oks fs vs) (encs fs vs) a b
  | [], a, b, vs, ha, h => by
    cases h
    exact ⟨trivial, Nat.le_refl _, ha, (cut_self l a).symm⟩
  | f :: fs, a, b, vs, ha, h => by
    obtain ⟨v, a', h1, h2⟩ := PR.bind_ok h
    obtain ⟨us, a'', h3, h4⟩ := PR.bind_ok h2
    cases h4
    obtain ⟨o1, l1, l2, e1⟩ := pr_went h1
    obtain ⟨o2, l3, l4, e2⟩ := prs_went l2 h3
    refine ⟨⟨o1, o2⟩, by omega, l4, ?_⟩
    show f.enc v ++ encs fs us = _
    rw [e1, e2, cut_app l1 l3]
theorem prn_went {l : List UInt8} {es : List Fk} : ∀ {n a b : Nat} {vss : List (List Value)}, a ≤ l.length → prn l es n a = .ok vss b → Went l (vss.length = n ∧ ∀ vs ∈ vss, Oks es vs) (vss.flatMap (encs es)) a b
  | 0, a, b, vss, ha, h => by
    cases h
    exact ⟨⟨rfl, by simp⟩, Nat.le_refl _, ha, (cut_self l a).symm⟩
  | n + 1, a, b, vss, ha, h => by
    obtain ⟨v, a', h1, h2⟩ := PR.bind_ok h
    obtain ⟨us, a'', h3, h4⟩ := PR.bind_ok h2
    cases h4
    obtain ⟨o1, l1, l2, e1⟩ := prs_went ha h1
    obtain ⟨o2, l3, l4, e2⟩ := prn_went l2 h3
    refine ⟨⟨by simp [o2.1], fun vs hv => ?_⟩, by omega, l4, ?_⟩
    · rcases List.mem_cons.1 hv with rfl | hv
      · exact o1
      · exact o2.2 _ hv
    · rw [List.flatMap_cons, e1, e2, cut_app l1 l3]
theorem prl_went {l : List UInt8} {es : List Fk} {most a b : Nat} {vss : List (List Value)} (h : prl l most es a = .ok vss b) : Went l (vss.length ≤ most ∧ ∀ vs ∈ vss, Oks es vs) (encl es vss) a b := by
  obtain ⟨v, a', h1, h2⟩ := PR.bind_ok h
  obtain ⟨o1, l1, l2, e1⟩ := pr_went h1
  simp only [Fk.pr] at h1
  split at h1
  · cases h1
    split at h2
    · rename_i hm
      obtain ⟨o2, l3, l4, e2⟩ := prn_went l2 h2
      refine ⟨⟨by omega, o2.2⟩, by omega, l4, ?_⟩
      have e1' : enc (uVal l a) = cut l a (uNext l a) := by
        have : Fk.enc .nn (.int .u64 (uVal l a)) = enc (uVal l a) := by show enc ((uVal l a : Nat) : Int).toNat = _; rw [Int.toNat_natCast]
        rw [← this]; exact e1
      unfold encl
      rw [o2.1, e1', e2, cut_app l1 l3]
    · cases h2
  · cases h1
theorem at_mid {pre post : List UInt8} {u : UInt8} : (pre ++ u :: post)[pre.length]? = some u := by simp
theorem enc_pr {f : Fk} {v : Value} (h : f.ok v) (pre post : List UInt8) : f.pr (pre ++ (f.enc v ++ post)) pre.length = .ok v (pre ++ f.enc v).length := by
  cases f with
  | ww =>
    obtain ⟨x, rfl, h0, h1⟩ := h
    obtain ⟨e1, e2, e3⟩ := read_enc (pre := pre) (post := post) (zz_lt h0 h1)
    show Fk.pr (pre ++ (enc (zz x) ++ post)) pre.length .ww = _
    simp only [Fk.pr]
    rw [if_pos e1, e2, e3, whole_zz h0 h1]
    rfl
  | nn =>
    obtain ⟨x, rfl, h0, h1⟩ := h
    obtain ⟨e1, e2, e3⟩ := read_enc (pre := pre) (post := post) (n := x.toNat) (by omega)
    show Fk.pr (pre ++ (enc x.toNat ++ post)) pre.length .nn = _
    simp only [Fk.pr]
    rw [if_pos e1, e2, e3, show ((x.toNat : Nat) : Int) = x by omega]
    rfl
  | kk =>
    obtain ⟨x, rfl, h0, h1⟩ := h
    obtain ⟨e1, e2, e3⟩ := read_enc (pre := pre) (post := post) (n := x.toNat) (by omega)
    show Fk.pr (pre ++ (enc x.toNat ++ post)) pre.length .kk = _
    simp only [Fk.pr]
    rw [if_pos e1, e2, if_pos (by omega), e3, show ((x.toNat : Nat) : Int) = x by omega]
    rfl
  | tt =>
    obtain ⟨x, rfl⟩ := h
    show Fk.pr (pre ++ (encB x ++ post)) pre.length .tt = _
    cases x
    · have hg : (pre ++ (encB false ++ post))[pre.length]? = some 0 := at_mid
      have hb : bVal (pre ++ (encB false ++ post)) pre.length = 0 := by unfold bVal; rw [hg]; rfl
      have hc : tCode (pre ++ (encB false ++ post)) pre.length = 0 := by
        unfold tCode; rw [hb, if_pos (by simp [encB]), if_pos (by decide)]
      simp only [Fk.pr]
      rw [if_pos hc, hb]
      simp [Fk.enc, encB]
    · have hg : (pre ++ (encB true ++ post))[pre.length]? = some 1 := at_mid
      have hb : bVal (pre ++ (encB true ++ post)) pre.length = 1 := by unfold bVal; rw [hg]; rfl
      have hc : tCode (pre ++ (encB true ++ post)) pre.length = 0 := by
        unfold tCode; rw [hb, if_pos (by simp [encB]), if_pos (by decide)]
      simp only [Fk.pr]
      rw [if_pos hc, hb]
      simp [Fk.enc, encB]
  | bb =>
    obtain ⟨x, rfl⟩ := h
    have e : Fk.enc .bb (bV x) = [x] := by show [UInt8.ofNat ((x.toNat : Nat) : Int).toNat] = _; rw [Int.toNat_natCast, UInt8.ofNat_toNat]
    rw [e]
    have hg : (pre ++ ([x] ++ post))[pre.length]? = some x := at_mid
    have hb : bVal (pre ++ ([x] ++ post)) pre.length = x := by unfold bVal; rw [hg]; rfl
    have hc : bCode (pre ++ ([x] ++ post)) pre.length = 0 := by unfold bCode; rw [if_pos (by simp)]
    simp only [Fk.pr]
    rw [if_pos hc, hb]
    simp
theorem encs_prs : ∀ {fs : List Fk} {vs : List Value}, Oks fs vs → ∀ (pre post : List UInt8), prs (pre ++ (encs fs vs ++ post)) fs pre.length = .ok vs (pre ++ encs fs vs).length
  | [], [], _, pre, post => by simp [prs, encs]
  | f :: fs, v :: vs, h, pre, post => by
    have e1 := enc_pr h.1 pre (encs fs vs ++ post)
    have e2 := encs_prs h.2 (pre ++ f.enc v) post
    have es : pre ++ (encs (f :: fs) (v :: vs) ++ post) = pre ++ (f.enc v ++ (encs fs vs ++ post)) := by show pre ++ (f.enc v ++ encs fs vs ++ post) = _; rw [List.append_assoc]
    have es2 : pre ++ (f.enc v ++ (encs fs vs ++ post)) = (pre ++ f.enc v) ++ (encs fs vs ++ post) := by rw [List.append_assoc]
    rw [es, prs, e1]
    show PR.bind (prs _ fs (pre ++ f.enc v).length) _ = _
    rw [es2, e2]
    show PR.ok _ _ = _
    rw [List.append_assoc]
    rfl
  | [], _ :: _, h, _, _ => h.elim
  | _ :: _, [], h, _, _ => h.elim
theorem encn_prn {es : List Fk} : ∀ {vss : List (List Value)}, (∀ vs ∈ vss, Oks es vs) → ∀ (pre post : List UInt8), prn (pre ++ (vss.flatMap (encs es) ++ post)) es vss.length pre.length = .ok vss (pre ++ vss.flatMap (encs es)).length
  | [], _, pre, post => by simp [prn]
  | v :: vss, h, pre, post => by
    have e1 := encs_prs (h v (List.mem_cons_self ..)) pre (vss.flatMap (encs es) ++ post)
    have e2 := encn_prn (fun vs hv => h vs (List.mem_cons_of_mem _ hv)) (pre ++ encs es v) post
    have s1 : pre ++ ((v :: vss).flatMap (encs es) ++ post) = pre ++ (encs es v ++ (vss.flatMap (encs es) ++ post)) := by rw [List.flatMap_cons, List.append_assoc]
    have s2 : pre ++ (encs es v ++ (vss.flatMap (encs es) ++ post)) = (pre ++ encs es v) ++ (vss.flatMap (encs es) ++ post) := by rw [List.append_assoc]
    rw [s1]
    show prn _ es (vss.length + 1) _ = _
    rw [prn, e1]
    show PR.bind (prn _ es vss.length (pre ++ encs es v).length) _ = _
    rw [s2, e2]
    show PR.ok _ _ = _
    rw [List.append_assoc]
    rfl
theorem encl_prl {es : List Fk} {most : Nat} {vss : List (List Value)} (hm : vss.length ≤ most) (hmm : most ≤ 1000000) (h : ∀ vs ∈ vss, Oks es vs) (pre post : List UInt8) : prl (pre ++ (encl es vss ++ post)) most es pre.length = .ok vss (pre ++ encl es vss).length := by
  obtain ⟨e1, e2, e3⟩ := read_enc (pre := pre) (post := vss.flatMap (encs es) ++ post) (n := vss.length) (by omega)
  have s1 : pre ++ (encl es vss ++ post) = pre ++ (enc vss.length ++ (vss.flatMap (encs es) ++ post)) := by unfold encl; rw [List.append_assoc]
  have s2 : pre ++ (enc vss.length ++ (vss.flatMap (encs es) ++ post)) = (pre ++ enc vss.length) ++ (vss.flatMap (encs es) ++ post) := by rw [List.append_assoc]
  rw [s1]
  simp only [prl, Fk.pr]
  rw [if_pos e1]
  simp only [PR.bind]
  rw [e2, if_pos hm, e3, s2, encn_prn h, List.append_assoc]
  rfl
end Go.Proofs.YtakedlockchpcaaDoor
namespace Go.Proofs.YtakedlockchpcaaDoor
open Go.RowKit
def FnE (P : Program) (f : FuncId) (args : List Value) (L : List (Nat × Obj)) (Rr Rp : Value → List (Nat × Obj) → Prop) : Prop := ∀ g w, Mem g L w → Calls P f args.toArray w (EndR g Rr Rp)
theorem EndR.mono {g : World} {Rr Rp Rr' Rp' : Value → List (Nat × Obj) → Prop} (h1 : ∀ v L, Rr v L → Rr' v L) (h2 : ∀ v L, Rp v L → Rp' v L) {e : Ending} {w : World} (h : EndR g Rr Rp e w) : EndR g Rr' Rp' e w := by
  rcases h with ⟨v, L, a, b, c⟩ | ⟨v, L, a, b, c⟩
  · exact .inl ⟨v, L, a, b, h1 v L c⟩
  · exact .inr ⟨v, L, a, b, h2 v L c⟩
theorem FnE.mono {P : Program} {f : FuncId} {args : List Value} {L : List (Nat × Obj)} {Rr Rp Rr' Rp' : Value → List (Nat × Obj) → Prop} (h : FnE P f args L Rr Rp) (h1 : ∀ v L, Rr v L → Rr' v L) (h2 : ∀ v L, Rp v L → Rp' v L) : FnE P f args L Rr' Rp' :=
  fun g w hm => (h g w hm).mono fun _ _ hE => hE.mono h1 h2
theorem FnE.perm {P : Program} {f : FuncId} {args : List Value} {L L1 : List (Nat × Obj)} {Rr Rp Rr1 Rp1 : Value → List (Nat × Obj) → Prop} (h : FnE P f args L1 Rr1 Rp1) (hp : L1.Perm L) (h1 : ∀ v L', Rr1 v L' → ∃ L2, L2.Perm L' ∧ Rr v L2) (h2 : ∀ v L', Rp1 v L' → ∃ L2, L2.Perm L' ∧ Rp v L2) : FnE P f args L Rr Rp :=
  fun g w hm => (h g w (hm.perm hp)).mono fun _ _ hE => by
    rcases hE with ⟨v, L', a, b, c⟩ | ⟨v, L', a, b, c⟩
    · obtain ⟨L2, p, q⟩ := h1 v L' c; exact .inl ⟨v, L2, a, b.perm p, q⟩
    · obtain ⟨L2, p, q⟩ := h2 v L' c; exact .inr ⟨v, L2, a, b.perm p, q⟩
theorem FnE.ofFn {P : Program} {f : FuncId} {args : List Value} {L : List (Nat × Obj)} {Rr Rp : Value → List (Nat × Obj) → Prop} (h : Fn P f args L Rr) : FnE P f args L Rr Rp :=
  fun g w hm => (h g w hm).mono fun _ _ ⟨v, L', h1, h2, h3⟩ => .inl ⟨v, L', h1, h2, h3⟩
theorem FnE.toFn {P : Program} {f : FuncId} {args : List Value} {L : List (Nat × Obj)} {Rr Rp : Value → List (Nat × Obj) → Prop} (h : FnE P f args L Rr Rp) (hn : ∀ v L', ¬ Rp v L') : Fn P f args L Rr :=
  fun g w hm => (h g w hm).mono fun _ _ hE => by
    rcases hE with ⟨v, L', a, b, c⟩ | ⟨v, L', _, _, c⟩
    · exact ⟨v, L', a, b, c⟩
    · exact (hn v L' c).elim
theorem FnE_enter {P : Program} {f : FuncId} {fn : Func} {code : Code} {args : List Value} {L : List (Nat × Obj)} {Rr Rp : Value → List (Nat × Obj) → Prop} {N : Nat} (hf : P.funcs[f]? = some fn) (hb : fn.body = some code) (hN : fn.ntmps = N) (hl : Nat.ble args.length N = true)
    (h : ∀ g, WC ⟨P, g, N, 0, none⟩ code (postL ⟨P, g, N, 0, none⟩ fn Rr Rp) ⟨initS 0 args, [], L⟩) : FnE P f args L Rr Rp := enterL hf hb hN hl h
section
variable {c : Cx} {o : Oper} {Kn : St → Prop} {K : Exit → St → Prop} {σ : St}
theorem OW_enterE {f : FuncId} {vs : List Value} {Rr Rp : Value → List (Nat × Obj) → Prop} (hnd : ∀ cc, o.op ≠ .defer cc) (hr : ∀ a w, Holds c.g c.N σ a w → (execOp a.eval o).run c.P w = .ok (.enter f vs.toArray) w) (hd : dok c.N o.dst = true)
    (hF : FnE c.P f vs σ.L Rr Rp) (hk : ∀ v L', Rr v L' → Kn (St.put ⟨σ.s, σ.D, L'⟩ o.dst v)) (hp : ∀ v L', Rp v L' → K (.panic (pan v)) ⟨[], σ.D, L'⟩) : OW c o Kn K σ := fun a w hH => by
  refine ⟨fun _ _ => trivial, ?_⟩
  rw [Oper.semAt_eq _ _ _ hnd, hr a w hH]
  refine ⟨fun h => by simp at h, (callsIn_fw c.r _ (hF c.g w hH.mem)).mono fun e w' hE => ?_⟩
  rcases hE with ⟨v, L', h1, h2, h3⟩ | ⟨v, L', h1, h2, h3⟩
  · subst h1
    exact ⟨_, (hH.mem' h2).put hd v, hk v L' h3⟩
  · subst h1
    exact ⟨σ.D, L', ⟨hH.size, (fun t u hu => by cases hu), hH.defers, h2⟩, hp v L' h3⟩
theorem call_run {f : FuncId} {x : Operand} {A B : Array Value} {args : Array Operand} {tys : Array TypeId} [hf : FCall c.P f] {vs : List Value} (ho : o.op = .call { callee := .value x, args := args, argTypes := tys }) (hx : ev σ.s x = some (.func (.func f) A B)) (ha : evs σ.s args.toList = some vs) (a : Act) (w : World) (hH : Holds c.g c.N σ a w) :
    (execOp a.eval o).run c.P w = .ok (.enter f (A.toList ++ vs ++ B.toList).toArray) w := by
  have hargs : args.map a.eval = vs.toArray := by
    apply Array.ext'
    simpa using hH.evs ha
  have e : (A.toList ++ vs ++ B.toList).toArray = A ++ vs.toArray ++ B := by apply Array.ext'; simp
  rw [e]
  simp [execOp, ho, resolve, Deferred.ofValue, hH.ev hx, hargs, invoke, hf.h]
end
theorem OW_callE {c : Cx} {o : Oper} {Kn : St → Prop} {K : Exit → St → Prop} {s : List (Nat × Value)} {D : List Deferred} {L : List (Nat × Obj)} {f d : FuncId} {x : Operand} {args : Array Operand} {tys : Array TypeId} [hf : FCall c.P f] {vs : List Value} {Rr Rp : Value → List (Nat × Obj) → Prop}
    (ho : o.op = .call { callee := .value x, args := args, argTypes := tys }) (hF : FnE c.P f vs L Rr Rp) (hk : ∀ v L', Rr v L' → Kn ⟨(d, v) :: s, D, L'⟩) (hp : ∀ v L', Rp v L' → K (.panic (pan v)) ⟨[], D, L'⟩)
    (hdst : o.dst = some d := by exact rfl) (hd : Nat.blt d c.N = true := by exact rfl) (hx : ev s x = some (.func (.func f) #[] #[]) := by exact rfl) (ha : evs s args.toList = some vs := by exact rfl) : OW c o Kn K ⟨s, D, L⟩ :=
  OW_enterE (σ := ⟨s, D, L⟩) (by rw [ho]; intro cc h; cases h) (call_run ho hx ha) (by rw [hdst]; exact hd) (by simpa using hF) (by rw [hdst]; exact hk) hp
theorem OW_invE {c : Cx} {o : Oper} {Kn : St → Prop} {K : Exit → St → Prop} {s : List (Nat × Value)} {D : List Deferred} {L : List (Nat × Obj)} {f d : FuncId} {x : Operand} {name : String} {args : Array Operand} {tys : Array TypeId} {t : TypeId} {r : Value} (hm : methX c.P t name = some f) [hf : FCall c.P f] {vs : List Value} {Rr Rp : Value → List (Nat × Obj) → Prop}
    (ho : o.op = .call { callee := .invoke x name, args := args, argTypes := tys }) (hF : FnE c.P f (r :: vs) L Rr Rp) (hk : ∀ v L', Rr v L' → Kn ⟨(d, v) :: s, D, L'⟩) (hp : ∀ v L', Rp v L' → K (.panic (pan v)) ⟨[], D, L'⟩)
    (hdst : o.dst = some d := by exact rfl) (hd : Nat.blt d c.N = true := by exact rfl) (hx : ev s x = some (.iface t r) := by exact rfl) (ha : evs s args.toList = some vs := by exact rfl) : OW c o Kn K ⟨s, D, L⟩ :=
  OW_enterE (σ := ⟨s, D, L⟩) (by rw [ho]; intro cc h; cases h) (fun a w hH => invoke_run ho hx ha hm a w hH) (by rw [hdst]; exact hd) hF (by rw [hdst]; exact hk) hp
def Free (fr : Nat × Nat) (off n : Nat) : Prop := ∀ k, k < n → ¬ (fr.1 ≤ off + k ∧ off + k < fr.2)
theorem Free.sub {fr : Nat × Nat} {off n : Nat} (h : Free fr off n) (j m : Nat) (hm : j + m ≤ n) : Free fr (off + j) m := fun k hk => by
  have := h (j + k) (by omega)
  rwa [← Nat.add_assoc] at this
theorem Free.zero (off n : Nat) : Free (0, 0) off n := fun k _ => by simp
theorem OW_store1F {c : Cx} {o : Oper} {Kn : St → Prop} {K : Exit → St → Prop} {s : List (Nat × Value)} {D : List Deferred} {L : List (Nat × Obj)} {t : TypeId} [hs : TSize c.P t 1] {x y : Operand} {b off : Nat} {cs : Array Value} {v : Value} {E : TypeId} {fr : Nat × Nat} (ho : o.op = .store t x y) (i : Nat) (hi : L[i]? = some (b, .cells cs E fr)) (hl : off < cs.size) (hfr : Free fr off 1)
    (hk : Kn ⟨s, D, L.set i (b, .cells (cs.setIfInBounds off v) E fr)⟩) (hdst : o.dst = none := by exact rfl) (hx : ev s x = some (.pointer (some ⟨b, off, none⟩)) := by exact rfl) (hy : ev s y = some v := by exact rfl) (h1 : v.oneCell' = true := by exact rfl) : OW c o Kn K ⟨s, D, L⟩ := fun a w ha => by
  refine ⟨fun _ _ => trivial, ?_⟩
  have hcell : w.cell? ⟨b, off, none⟩ = some cs[off] := by rw [cell_of_row w b off cs E fr (ha.mem.at_ hi)]; simp [hl]
  have hfro : w.frozen? ⟨b, off, none⟩ = false := by
    obtain ⟨lo, hi'⟩ := fr
    have h2 := hfr 0 (by omega)
    simp only [Nat.add_zero] at h2
    unfold World.frozen?
    simp only [ha.mem.at_ hi, Bool.and_eq_false_iff, decide_eq_false_iff_not]
    omega
  have hc1 : v.cells = #[v] := by cases v <;> first | rfl | cases h1
  have hr : (execOp a.eval o).run c.P w = .ok .skip (w.setRow b (cs.setIfInBounds off v)) := by
    have hst : (store (⟨b, off, none⟩ : Addr) v).run c.P w = .ok () (w.setRow b (cs.setIfInBounds off v)) := by
      rw [run_store c.P w _ v _ h1, hcell]
      simp [hfro, setCell_eq_setRow w b off cs E fr v (ha.mem.at_ hi)]
    simp [execOp, ho, ha.ev hx, ha.ev hy, Instr.storeAt, Instr.sureAddr, storeVar, hs.h, hc1, storeCells, Addr.add, hst]
  rw [Oper.semAt_eq _ _ _ (by rw [ho]; intro cc h; cases h), hr]
  refine ⟨_, ?_, hk⟩
  rw [hdst]
  exact ha.mem' (ha.mem.setRow hi _)
theorem set_app {A R : List (Nat × Obj)} {i : Nat} {q : Nat × Obj} : (A ++ R).set (A.length + i) q = A ++ R.set i q := by
  rw [List.set_append_right _ _ (by omega)]
  congr 2
  omega
theorem get_app {A R : List (Nat × Obj)} {i : Nat} {q : Nat × Obj} (h : R[i]? = some q) : (A ++ R)[A.length + i]? = some q := by
  rw [List.getElem?_append_right (by omega), show A.length + i - A.length = i by omega]; exact h
def Lies (cs : Array Value) (off : Nat) (vs : List Value) : Prop := ∀ j v, vs[j]? = some v → cs[off + j]? = some v
structure Upd (cs cs' : Array Value) (off : Nat) (vs : List Value) : Prop where
  size : cs'.size = cs.size
  lies : Lies cs' off vs
  rest : ∀ q, q < off ∨ off + vs.length ≤ q → cs'[q]? = cs[q]?
theorem Lies.cons {cs : Array Value} {off : Nat} {v : Value} {vs : List Value} (h : Lies cs off (v :: vs)) : cs[off]? = some v ∧ Lies cs (off + 1) vs :=
  ⟨h 0 v rfl, fun j u hj => by rw [Nat.add_assoc, Nat.add_comm 1 j]; exact h (j + 1) u hj⟩
theorem Lies.app {cs : Array Value} {off : Nat} {vs us : List Value} (h : Lies cs off (vs ++ us)) : Lies cs off vs ∧ Lies cs (off + vs.length) us :=
  ⟨fun j v hj => h j v (by rw [List.getElem?_append_left (List.getElem?_eq_some_iff.1 hj).1]; exact hj), fun j v hj => by
    rw [Nat.add_assoc]; exact h _ v (by rw [List.getElem?_append_right (by omega), show vs.length + j - vs.length = j by omega]; exact hj)⟩
theorem Lies.cut {cs : Array Value} {off : Nat} {vs : List Value} (h : Lies cs off vs) (at_ m : Nat) : Lies cs (off + at_) ((vs.drop at_).take m) := fun j v hj => by
  rw [Nat.add_assoc]
  refine h _ v ?_
  rw [List.getElem?_take] at hj
  split at hj
  · rwa [List.getElem?_drop] at hj
  · cases hj
theorem Upd.app {cs cs1 cs2 : Array Value} {off off' : Nat} {vs us : List Value} (h1 : Upd cs cs1 off vs) (h2 : Upd cs1 cs2 off' us) (ho : off' = off + vs.length) : Upd cs cs2 off (vs ++ us) := by
  subst ho
  refine ⟨h2.size.trans h1.size, fun j v hj => ?_, fun q hq => ?_⟩
  · by_cases hlt : j < vs.length
    · rw [List.getElem?_append_left hlt] at hj
      rw [h2.rest _ (.inl (by omega))]; exact h1.lies j v hj
    · rw [List.getElem?_append_right (by omega)] at hj
      have := h2.lies _ v hj
      rwa [show off + vs.length + (j - vs.length) = off + j by omega] at this
  · rw [List.length_append] at hq
    rw [h2.rest q (by omega), h1.rest q (by omega)]
theorem Upd.refl_of {cs : Array Value} {off : Nat} {vs : List Value} (h : Lies cs off vs) : Upd cs cs off vs := ⟨rfl, h, fun _ _ => rfl⟩
theorem Upd.keep {cs cs' : Array Value} {off off' : Nat} {vs us : List Value} (h : Upd cs cs' off vs) (hl : Lies cs off' us) (hd : off' + us.length ≤ off ∨ off + vs.length ≤ off') : Lies cs' off' us := fun j v hj => by
  have := (List.getElem?_eq_some_iff.1 hj).1
  rw [h.rest _ (by omega)]; exact hl j v hj
theorem Upd.same {cs cs' : Array Value} {off : Nat} {vs : List Value} (h : Upd cs cs' off vs) (hl : Lies cs off vs) : cs' = cs := by
  apply Array.ext_getElem?
  intro q
  by_cases hq : q < off ∨ off + vs.length ≤ q
  · exact h.rest q hq
  · obtain ⟨v, hv⟩ : ∃ v, vs[q - off]? = some v := ⟨_, List.getElem?_eq_getElem (by omega)⟩
    have h1 := h.lies _ v hv
    have h2 := hl _ v hv
    rw [show off + (q - off) = q by omega] at h1 h2
    rw [h1, h2]
theorem Upd.one {cs : Array Value} {off : Nat} (v : Value) (h : off < cs.size) : Upd cs (cs.setIfInBounds off v) off [v] := by
  refine ⟨by simp, fun j u hj => ?_, fun q hq => ?_⟩
  · cases j with
    | zero => simp at hj; subst hj; simp [h]
    | succ j => simp at hj
  · rw [Array.getElem?_setIfInBounds_ne (by simp at hq; omega)]
inductive RW (S : Type) where
  | ok (s : S) (v : Value)
  | bad (code at_ : Nat)
inductive RWs (S : Type) where
  | ok (s : S) (vs : List Value)
  | bad (code at_ : Nat)
structure Wy (P : Program) where
  S : Type
  t : TypeId
  v : Value
  T0 : List (Nat × Obj)
  mem : S → List (Nat × Obj) → Prop
  room : S → Nat → Prop
  stp : Fk → S → Value → RW S
  hr : S → S
  mst : Bool → Nat → S → Option (Nat × Nat)
  hr_room : ∀ {s n}, room s n → room (hr s) n
  key_ok : ∀ {s x s' y}, 0 ≤ x → x < 4294967296 → stp .nn (hr s) (.int .u64 x) = .ok s' (.int .u64 y) → mst (decide (y ≤ 4294967295)) 4 s' = none → stp .kk s (.int .u32 x) = .ok s' (.int .u32 y) ∧ y < 4294967296
  key_bad : ∀ {s x c a}, stp .nn (hr s) (.int .u64 x) = .bad c a → stp .kk s (.int .u32 x) = .bad c a
  key_must : ∀ {s x s' y c a}, stp .nn (hr s) (.int .u64 x) = .ok s' (.int .u64 y) → mst (decide (y ≤ 4294967295)) 4 s' = some (c, a) → stp .kk s (.int .u32 x) = .bad c a
  keeps : T0 = [] ∨ ∀ k s x s' y, stp k s x = .ok s' y → y = x
  stp_ok : ∀ {k s x s' y}, stp k s x = .ok s' y → Fk.ok k x → Fk.ok k y
  stp_room : ∀ {k s x s' y n}, stp k s x = .ok s' y → Fk.ok k x → room s (n + 1) → room s' n
  room_le : ∀ {s n m}, room s n → m ≤ n → room s m
variable {P : Program}
def Wy.recv (W : Wy P) : Value := .iface W.t W.v
def Wy.stps (W : Wy P) : List Fk → W.S → List Value → RWs W.S
  | [], s, _ => .ok s []
  | _ :: _, s, [] => .ok s []
  | k :: ks, s, v :: vs => match W.stp k s v with
    | .bad c a => .bad c a
    | .ok s' v' => match W.stps ks s' vs with
      | .bad c a => .bad c a
      | .ok s'' vs' => .ok s'' (v' :: vs')
theorem Wy.stps_app (W : Wy P) : ∀ {ks : List Fk} {ls : List Fk} {s : W.S} {vs us : List Value}, Oks ks vs → W.stps (ks ++ ls) s (vs ++ us) = match W.stps ks s vs with
    | .bad c a => .bad c a
    | .ok s' vs' => match W.stps ls s' us with
      | .bad c a => .bad c a
      | .ok s'' us' => .ok s'' (vs' ++ us')
  | [], ls, s, [], us, _ => by
    simp only [List.nil_append, Wy.stps]
    cases W.stps ls s us <;> rfl
  | k :: ks, ls, s, v :: vs, us, h => by
    simp only [List.cons_append, Wy.stps]
    cases W.stp k s v with
    | bad c a => rfl
    | ok s' v' =>
      simp only
      rw [Wy.stps_app W h.2]
      cases W.stps ks s' vs with
      | bad c a => rfl
      | ok s'' vs' =>
        simp only
        cases W.stps ls s'' us <;> rfl
  | [], _, _, _ :: _, _, h => h.elim
  | _ :: _, _, _, [], _, h => h.elim
theorem Wy.stps_ok (W : Wy P) : ∀ {ks : List Fk} {s s' : W.S} {vs us : List Value}, W.stps ks s vs = .ok s' us → Oks ks vs → Oks ks us
  | [], _, _, [], us, h, _ => by simp only [Wy.stps] at h; cases h; trivial
  | k :: ks, s, s', v :: vs, us, h, ho => by
    simp only [Wy.stps] at h
    cases h1 : W.stp k s v with
    | bad c a => rw [h1] at h; cases h
    | ok s1 v1 =>
      rw [h1] at h
      cases h2 : W.stps ks s1 vs with
      | bad c a => simp only [h2] at h; cases h
      | ok s2 vs2 =>
        simp only [h2] at h
        cases h
        exact ⟨W.stp_ok h1 ho.1, Wy.stps_ok W h2 ho.2⟩
  | [], _, _, _ :: _, _, _, h => h.elim
  | _ :: _, _, _, [], _, _, h => h.elim
theorem Wy.stps_room (W : Wy P) : ∀ {ks : List Fk} {s s' : W.S} {vs us : List Value} {n : Nat}, W.stps ks s vs = .ok s' us → Oks ks vs → W.room s (n + ks.length) → W.room s' n
  | [], _, _, [], us, n, h, _, hr => by simp only [Wy.stps] at h; cases h; exact hr
  | k :: ks, s, s', v :: vs, us, n, h, ho, hr => by
    simp only [Wy.stps] at h
    cases h1 : W.stp k s v with
    | bad c a => rw [h1] at h; cases h
    | ok s1 v1 =>
      rw [h1] at h
      cases h2 : W.stps ks s1 vs with
      | bad c a => simp only [h2] at h; cases h
      | ok s2 vs2 =>
        simp only [h2] at h
        cases h
        exact Wy.stps_room W h2 ho.2 (W.stp_room h1 ho.1 hr)
  | [], _, _, _ :: _, _, _, _, h, _ => h.elim
  | _ :: _, _, _, [], _, _, _, h, _ => h.elim
theorem Wy.cat_ok (W : Wy P) {fs gs : List Fk} {s s1 s2 : W.S} {vs us vs1 us2 : List Value} (h1 : W.stps fs s vs = .ok s1 vs1) (ho : Oks fs vs) (h2 : W.stps gs s1 us = .ok s2 us2) : W.stps (fs ++ gs) s (vs ++ us) = .ok s2 (vs1 ++ us2) := by
  rw [W.stps_app ho, h1]
  simp only [h2]
theorem Wy.cat_bad (W : Wy P) {fs gs : List Fk} {s s1 : W.S} {vs us vs1 : List Value} {c a : Nat} (h1 : W.stps fs s vs = .ok s1 vs1) (ho : Oks fs vs) (h2 : W.stps gs s1 us = .bad c a) : W.stps (fs ++ gs) s (vs ++ us) = .bad c a := by
  rw [W.stps_app ho, h1]
  simp only [h2]
theorem Wy.bad_cat (W : Wy P) {fs : List Fk} (gs : List Fk) {s : W.S} {vs : List Value} (us : List Value) {c a : Nat} (h1 : W.stps fs s vs = .bad c a) (ho : Oks fs vs) : W.stps (fs ++ gs) s (vs ++ us) = .bad c a := by
  rw [W.stps_app ho, h1]
theorem Wy.stps_len (W : Wy P) {fs : List Fk} {s s' : W.S} {vs us : List Value} (h : W.stps fs s vs = .ok s' us) (ho : Oks fs vs) : us.length = fs.length := (W.stps_ok h ho).len
theorem Wy.stps1_ok (W : Wy P) {k : Fk} {s s' : W.S} {v v' : Value} (h : W.stp k s v = .ok s' v') : W.stps [k] s [v] = .ok s' [v'] := by simp only [Wy.stps, h]
theorem Wy.stps1_bad (W : Wy P) {k : Fk} {s : W.S} {v : Value} {c a : Nat} (h : W.stp k s v = .bad c a) : W.stps [k] s [v] = .bad c a := by simp only [Wy.stps, h]
theorem Oks.split {k : Fk} {ks : List Fk} {vs : List Value} (h : Oks (k :: ks) vs) : ∃ v us, vs = v :: us ∧ k.ok v ∧ Oks ks us := by
  cases vs with
  | nil => exact h.elim
  | cons v us => exact ⟨v, us, rfl, h.1, h.2⟩
theorem Oks.nil {vs : List Value} (h : Oks [] vs) : vs = [] := by
  cases vs with
  | nil => rfl
  | cons v us => exact h.elim
def FRet (W : Wy P) (r : RWs W.S) (R : List (Nat × Obj)) (i b : Nat) (cs : Array Value) (E : TypeId) (fr : Nat × Nat) (off : Nat) (L' : List (Nat × Obj)) : Prop :=
  ∃ s' vs' Lp' cs', r = .ok s' vs' ∧ L' = Lp' ++ R.set i (b, .cells cs' E fr) ∧ W.mem s' Lp' ∧ Upd cs cs' off vs' ∧ ∀ q ∈ W.T0, q ∈ R.set i (b, .cells cs' E fr)
def FPan (W : Wy P) (r : RWs W.S) (R : List (Nat × Obj)) (i b : Nat) (cs : Array Value) (E : TypeId) (fr : Nat × Nat) (u : Value) (L' : List (Nat × Obj)) : Prop :=
  ∃ c a p s' Lp' cs', r = .bad c a ∧ u = flt p ∧ L' = (p, fltO c a) :: (Lp' ++ R.set i (b, .cells cs' E fr)) ∧ W.mem s' Lp' ∧ cs'.size = cs.size
def Flat (W : Wy P) (f : FuncId) (a0 : Value) (fs : List Fk) : Prop :=
  ∀ (s : W.S) (Lp R : List (Nat × Obj)) (i b : Nat) (cs : Array Value) (E : TypeId) (fr : Nat × Nat) (off : Nat) (vs : List Value), W.mem s Lp → (∀ q ∈ W.T0, q ∈ R) → W.room s fs.length → R[i]? = some (b, .cells cs E fr) → Oks fs vs → Lies cs off vs → Free fr off fs.length →
    FnE P f [a0, .pointer (some ⟨b, off, none⟩)] (Lp ++ R) (fun v L' => v = .tuple #[] ∧ FRet W (W.stps fs s vs) R i b cs E fr off L') (FPan W (W.stps fs s vs) R i b cs E fr)
theorem FnE.dropP {P : Program} {f : FuncId} {args : List Value} {L : List (Nat × Obj)} {Rr Rp Rp' : Value → List (Nat × Obj) → Prop} (h : FnE P f args L Rr Rp) (h2 : ∀ v L', Rp v L' → ∃ Lx, Lx.Sublist L' ∧ Rp' v Lx) : FnE P f args L Rr Rp' :=
  fun g w hm => (h g w hm).mono fun _ _ hE => by
    rcases hE with ⟨v, L', a, b, c⟩ | ⟨v, L', a, b, c⟩
    · exact .inl ⟨v, L', a, b, c⟩
    · obtain ⟨Lx, p, q⟩ := h2 v L' c; exact .inr ⟨v, Lx, a, b.sublist p, q⟩
theorem set_same {α : Type} {l : List α} {i : Nat} {x : α} (h : l[i]? = some x) : l.set i x = l := by
  apply List.ext_getElem?
  intro j
  rw [List.getElem?_set]
  obtain ⟨hl, he⟩ := List.getElem?_eq_some_iff.1 h
  by_cases e : i = j
  · subst e; simp [hl, he]
  · rw [if_neg e]
theorem get_set_self {α : Type} {l : List α} {i : Nat} {x : α} (h : l[i]? = some x) (y : α) : (l.set i y)[i]? = some y := by
  have := (List.getElem?_eq_some_iff.1 h).1
  simp [this]
section
variable {c : Cx} {o : Oper} {Kn : St → Prop} {K : Exit → St → Prop} {sl : List (Nat × Value)} {D : List Deferred}
structure After (W : Wy c.P) (fs : List Fk) (s : W.S) (vs : List Value) (R : List (Nat × Obj)) (i b : Nat) (cs : Array Value) (E : TypeId) (fr : Nat × Nat) (off : Nat) (Kn : List (Nat × Obj) → Prop) (Kp : List PanicEntry → List (Nat × Obj) → Prop) : Prop where
  ret : ∀ s' vs' Lp' cs', W.stps fs s vs = .ok s' vs' → W.mem s' Lp' → Upd cs cs' off vs' → (∀ q ∈ W.T0, q ∈ R.set i (b, .cells cs' E fr)) → Kn (Lp' ++ R.set i (b, .cells cs' E fr))
  pan : ∀ q a p s' Lp' cs', W.stps fs s vs = .bad q a → W.mem s' Lp' → cs'.size = cs.size → Kp (pan (flt p)) ((p, fltO q a) :: (Lp' ++ R.set i (b, .cells cs' E fr)))
variable {W : Wy c.P} {s : W.S} {Lp R : List (Nat × Obj)} {i b : Nat} {cs : Array Value} {E : TypeId} {fr : Nat × Nat} {off : Nat}
theorem OW_flatF {fs : List Fk} {vs : List Value} {f d : FuncId} {x : Operand} {args : Array Operand} {tys : Array TypeId} [hf : FCall c.P f] (hC : Flat W f W.recv fs) (hM : W.mem s Lp) (hT : ∀ q ∈ W.T0, q ∈ R) (hr : W.room s fs.length) (hR : R[i]? = some (b, .cells cs E fr)) (hv : Oks fs vs) (hl : Lies cs off vs) (hfr : Free fr off fs.length)
    (ho : o.op = .call { callee := .value x, args := args, argTypes := tys }) (hk : After W fs s vs R i b cs E fr off (fun L => Kn ⟨(d, .tuple #[]) :: sl, D, L⟩) (fun ch L => K (.panic ch) ⟨[], D, L⟩))
    (hdst : o.dst = some d := by exact rfl) (hd : Nat.blt d c.N = true := by exact rfl) (hx : ev sl x = some (.func (.func f) #[] #[]) := by exact rfl) (ha : evs sl args.toList = some [W.recv, .pointer (some ⟨b, off, none⟩)] := by exact rfl) : OW c o Kn K ⟨sl, D, Lp ++ R⟩ :=
  OW_callE ho (hC s Lp R i b cs E fr off vs hM hT hr hR hv hl hfr) (fun v L' ⟨h0, s', vs', Lp', cs', h1, h2, h3, h4, h5⟩ => by
    rw [h2, h0]; exact hk.ret s' vs' Lp' cs' h1 h3 h4 h5) (fun v L' ⟨q, a, p, s', Lp', cs', h1, h2, h3, h4, h5⟩ => by
    rw [h2, h3]; exact hk.pan q a p s' Lp' cs' h1 h4 h5) hdst hd hx ha
theorem OW_flatI {k : Fk} {x0 : Value} {f d : FuncId} {x : Operand} {name : String} {args : Array Operand} {tys : Array TypeId} (hm : methX c.P W.t name = some f) [hf : FCall c.P f] (hC : Flat W f W.v [k]) (hM : W.mem s Lp) (hT : ∀ q ∈ W.T0, q ∈ R) (hr : W.room s 1) (hR : R[i]? = some (b, .cells cs E fr)) (hv : k.ok x0) (hl : cs[off]? = some x0) (hfr : Free fr off 1)
    (ho : o.op = .call { callee := .invoke x name, args := args, argTypes := tys }) (hk : After W [k] s [x0] R i b cs E fr off (fun L => Kn ⟨(d, .tuple #[]) :: sl, D, L⟩) (fun ch L => K (.panic ch) ⟨[], D, L⟩))
    (hdst : o.dst = some d := by exact rfl) (hd : Nat.blt d c.N = true := by exact rfl) (hx : ev sl x = some (.iface W.t W.v) := by exact rfl) (ha : evs sl args.toList = some [.pointer (some ⟨b, off, none⟩)] := by exact rfl) : OW c o Kn K ⟨sl, D, Lp ++ R⟩ :=
  OW_enterE (σ := ⟨sl, D, Lp ++ R⟩) (by rw [ho]; intro cc h; cases h) (fun a w hH => invoke_run ho hx ha hm a w hH) (by rw [hdst]; exact hd) (hC s Lp R i b cs E fr off [x0] hM hT hr hR ⟨hv, trivial⟩ (fun j v hj => by
    cases j with
    | zero => simp at hj; subst hj; exact hl
    | succ j => simp at hj) hfr) (fun v L' ⟨h0, s', vs', Lp', cs', h1, h2, h3, h4, h5⟩ => by
    rw [hdst, h2, h0]; exact hk.ret s' vs' Lp' cs' h1 h3 h4 h5) (fun v L' ⟨q, a, p, s', Lp', cs', h1, h2, h3, h4, h5⟩ => by
    rw [h2, h3]; exact hk.pan q a p s' Lp' cs' h1 h4 h5)
theorem OW_locI {k : Fk} {x0 : Value} {f d m : FuncId} {x : Operand} {name : String} {args : Array Operand} {tys : Array TypeId} (hm : methX c.P W.t name = some f) [hf : FCall c.P f] (hC : Flat W f W.v [k]) (hM : W.mem s Lp) (hT : ∀ q ∈ W.T0, q ∈ R) (hr : W.room s 1) (hv : k.ok x0)
    (ho : o.op = .call { callee := .invoke x name, args := args, argTypes := tys })
    (hk : ∀ s' x' Lp', W.stp k s x0 = .ok s' x' → W.mem s' Lp' → Kn ⟨(d, .tuple #[]) :: sl, D, (m, .cells #[x'] E (0, 0)) :: (Lp' ++ R)⟩)
    (hp : ∀ q a p s' Lp', W.stp k s x0 = .bad q a → W.mem s' Lp' → K (.panic (pan (flt p))) ⟨[], D, (p, fltO q a) :: (Lp' ++ R)⟩)
    (hdst : o.dst = some d := by exact rfl) (hd : Nat.blt d c.N = true := by exact rfl) (hx : ev sl x = some (.iface W.t W.v) := by exact rfl) (ha : evs sl args.toList = some [.pointer (some ⟨m, 0, none⟩)] := by exact rfl) : OW c o Kn K ⟨sl, D, (m, .cells #[x0] E (0, 0)) :: (Lp ++ R)⟩ := by
  have hF := hC s Lp ((m, .cells #[x0] E (0, 0)) :: R) 0 m #[x0] E (0, 0) 0 [x0] hM (fun q hq => List.mem_cons_of_mem _ (hT q hq)) hr rfl ⟨hv, trivial⟩ (fun j v hj => by
    cases j with
    | zero => simp at hj; subst hj; rfl
    | succ j => simp at hj) (Free.zero _ _)
  have hF2 : FnE c.P f [W.v, .pointer (some ⟨m, 0, none⟩)] ((m, .cells #[x0] E (0, 0)) :: (Lp ++ R)) (fun v L' => v = .tuple #[] ∧ ∃ s' x' Lp', W.stp k s x0 = .ok s' x' ∧ L' = (m, .cells #[x'] E (0, 0)) :: (Lp' ++ R) ∧ W.mem s' Lp') (fun u L' => ∃ q a p s' Lp', W.stp k s x0 = .bad q a ∧ u = flt p ∧ L' = (p, fltO q a) :: (Lp' ++ R) ∧ W.mem s' Lp') := by
    refine FnE.perm (Rr1 := fun v L' => v = .tuple #[] ∧ FRet W (W.stps [k] s [x0]) ((m, .cells #[x0] E (0, 0)) :: R) 0 m #[x0] E (0, 0) 0 L') (Rp1 := fun u L' => ∃ q a p s' Lp', W.stp k s x0 = .bad q a ∧ u = flt p ∧ L' = (p, fltO q a) :: (Lp' ++ R) ∧ W.mem s' Lp') (hF.dropP ?_) List.perm_middle ?_ ?_
    · rintro u L' ⟨q, a, p, s', Lp', cs', h1, h2, rfl, h4, _⟩
      refine ⟨(p, fltO q a) :: (Lp' ++ R), .cons_cons _ (List.Sublist.append (.refl _) (.cons _ (.refl _))), q, a, p, s', Lp', ?_, h2, rfl, h4⟩
      simp only [Wy.stps] at h1
      cases e : W.stp k s x0 with
      | ok s1 v1 => rw [e] at h1; cases h1
      | bad c1 a1 => rw [e] at h1; cases h1; rfl
    · rintro v L' ⟨h0, s', vs', Lp', cs', h1, rfl, h3, h4, _⟩
      simp only [Wy.stps] at h1
      cases e : W.stp k s x0 with
      | bad c1 a1 => rw [e] at h1; cases h1
      | ok s1 v1 =>
        rw [e] at h1
        cases h1
        have hc : cs' = #[v1] := by
          apply Array.ext_getElem?
          intro q
          have hz := h4.size
          cases q with
          | zero => have := h4.lies 0 v1 rfl; simpa using this
          | succ q => rw [Array.getElem?_eq_none (by simp at hz; omega), Array.getElem?_eq_none (by simp)]
        subst hc
        exact ⟨_, List.perm_middle.symm, h0, _, _, Lp', rfl, rfl, h3⟩
    · rintro u L' h
      exact ⟨L', .refl _, h⟩
  refine OW_enterE (σ := ⟨sl, D, (m, .cells #[x0] E (0, 0)) :: (Lp ++ R)⟩) (by rw [ho]; intro cc h; cases h) (fun a w hH => invoke_run ho hx ha hm a w hH) (by rw [hdst]; exact hd) hF2 (fun v L' ⟨h0, s', x', Lp', h1, h2, h3⟩ => ?_) (fun u L' ⟨q, a, p, s', Lp', h1, h2, h3, h4⟩ => ?_)
  · rw [hdst, h0, h2]; exact hk s' x' Lp' h1 h3
  · rw [h2, h3]; exact hp q a p s' Lp' h1 h4
theorem Qt_nilCheck_m {L : List (Nat × Obj)} {x : Operand} {t f : Nat} {name : String} {v : Value} (ho : o.op = .nilCheck x) (hx : ev sl x = some (.func (.method name) #[.iface t v] #[]) := by exact rfl) (hm : methX c.P t name = some f := by with_reducible assumption) : Qt c sl L o (.func (.method name) #[.iface t v] #[]) :=
  Qt_of_run (by simp [ho]) (fun ρ hρ w _ => by
    have hpos : 0 < Made.depth := by decide
    obtain ⟨q, hq⟩ : ∃ q, c.P.types.size + Made.depth = q + 1 := ⟨c.P.types.size + Made.depth - 1, by omega⟩
    have hnr := nilAhead_run hm q v w
    simp [execOp, ho, hρ x _ hx, hq, hnr])
end
theorem Wy.keepT {P : Program} (W : Wy P) {R : List (Nat × Obj)} {i b : Nat} {cs : Array Value} {E : TypeId} {fr : Nat × Nat} {off : Nat} {k : Fk} {s s' : W.S} {x y : Value} (hT : ∀ q ∈ W.T0, q ∈ R) (hR : R[i]? = some (b, .cells cs E fr)) (hc : cs[off]? = some x) (hs : W.stp k s x = .ok s' y) : ∀ q ∈ W.T0, q ∈ R.set i (b, .cells (cs.setIfInBounds off y) E fr) := by
  rcases W.keeps with h | h
  · rw [h]; intro q hq; cases hq
  · rw [h _ _ _ _ _ hs]
    have e : cs.setIfInBounds off x = cs := by
      apply Array.ext_getElem?
      intro j
      by_cases ej : off = j
      · subst ej
        rw [Array.getElem?_setIfInBounds_self_of_lt (Array.getElem?_eq_some_iff.1 hc).1, hc]
      · rw [Array.getElem?_setIfInBounds_ne ej]
    rw [e, set_same hR]; exact hT
structure Meth (W : Wy Tryd.prog) where
  fw : FuncId
  fn : FuncId
  ft : FuncId
  fo : FuncId
  fh : FuncId
  fm : FuncId
  mw : methX Tryd.prog W.t "anabranch/codec.whole" = some fw
  mn : methX Tryd.prog W.t "anabranch/codec.number" = some fn
  mt : methX Tryd.prog W.t "anabranch/codec.truth" = some ft
  mo : methX Tryd.prog W.t "anabranch/codec.one" = some fo
  mh : methX Tryd.prog W.t "anabranch/codec.here" = some fh
  mm : methX Tryd.prog W.t "anabranch/codec.must" = some fm
  iw : FCall Tryd.prog fw
  jn : FCall Tryd.prog fn
  it : FCall Tryd.prog ft
  io : FCall Tryd.prog fo
  ih : FCall Tryd.prog fh
  im : FCall Tryd.prog fm
  cw : Flat W fw W.v [.ww]
  cn : Flat W fn W.v [.nn]
  ct : Flat W ft W.v [.tt]
  co : Flat W fo W.v [.bb]
  ch : ∀ (s : W.S) (Lp R : List (Nat × Obj)), W.mem s Lp → FnE Tryd.prog fh [W.v] (Lp ++ R) (fun v L' => v = .tuple #[] ∧ ∃ Lp', L' = Lp' ++ R ∧ W.mem (W.hr s) Lp') (fun _ _ => False)
  cm : ∀ (s : W.S) (Lp R : List (Nat × Obj)) (b : Bool) (code : Nat), W.mem s Lp → FnE Tryd.prog fm [W.v, .bool b, .int .i64 code] (Lp ++ R) (fun v L' => v = .tuple #[] ∧ L' = Lp ++ R ∧ W.mst b code s = none) (fun u L' => ∃ c a p, W.mst b code s = some (c, a) ∧ u = flt p ∧ L' = (p, fltO c a) :: (Lp ++ R))
end Go.Proofs.YtakedlockchpcaaDoor
namespace Go.Proofs.YtakedlockchpcaaDoor
abbrev recF : List Fk := [.kk, .ww, .ww, .bb, .tt, .tt]
abbrev opF : List Fk := [.ww, .ww, .ww, .ww]
abbrev accF : List Fk := [.ww, .ww, .nn, .ww, .ww]
abbrev entryF : List Fk := [.ww, .kk, .ww, .ww, .bb, .ww, .ww, .nn, .ww, .ww]
abbrev binF : List Fk := [.ww]
abbrev chF : List Fk := [.ww, .ww]
abbrev ctF : List Fk := [.ww, .ww, .ww, .ww, .ww, .ww, .ww]
abbrev khF : List Fk := [.ww, .ww, .tt]
structure MV where
  kind : Int
  ver : Int
  rc : List Value
  time : Int
  num : Int
  ch : List Value
  bins : List (List Value)
  ct : List Value
  kh : List Value
  ents : List (List Value)
def encCmd (ch : List Value) (bins : List (List Value)) (ct : List Value) : List UInt8 := encs chF ch ++ (encl binF bins ++ encs ctF ct)
def encChunk (kh : List Value) (ents : List (List Value)) : List UInt8 := encs khF kh ++ encl entryF ents
def MV.body (m : MV) : List UInt8 :=
  if m.kind = 0 then encs recF m.rc else if m.kind = 1 then enc (zz m.time) else if m.kind = 2 then enc (zz m.num) else if m.kind = 3 then encCmd m.ch m.bins m.ct else if m.kind = 4 then encChunk m.kh m.ents else []
def MV.enc (m : MV) : List UInt8 := Go.Proofs.YtakedlockchpcaaDoor.enc (zz m.kind) ++ (Go.Proofs.YtakedlockchpcaaDoor.enc (zz m.ver) ++ m.body)
def i64r (x : Int) : Prop := -9223372036854775808 ≤ x ∧ x < 9223372036854775808
structure MV.Ok (m : MV) : Prop where
  kind : i64r m.kind
  ver : i64r m.ver
  rc : Oks recF m.rc
  time : i64r m.time
  num : i64r m.num
  ch : Oks chF m.ch
  bins : ∀ vs ∈ m.bins, Oks binF vs
  ct : Oks ctF m.ct
  kh : Oks khF m.kh
  ents : ∀ vs ∈ m.ents, Oks entryF vs
abbrev zI : Value := .int .i64 0
def zRec : List Value := [.int .u32 0, zI, zI, .int .u8 0, .bool false, .bool false]
def MV.none : MV := ⟨0, 0, zRec, 0, 0, [zI, zI], [], [zI, zI, zI, zI, zI, zI, zI], [zI, zI, .bool false], []⟩
theorem i64r0 : i64r 0 := ⟨by omega, by omega⟩
theorem oks_zI : Fk.ok .ww zI := ⟨0, rfl, by omega, by omega⟩
theorem oks_zRec : Oks recF zRec := ⟨⟨0, rfl, by omega, by omega⟩, oks_zI, oks_zI, ⟨0, rfl⟩, ⟨false, rfl⟩, ⟨false, rfl⟩, trivial⟩
theorem MV.none_ok : MV.none.Ok := ⟨i64r0, i64r0, oks_zRec, i64r0, i64r0, ⟨oks_zI, oks_zI, trivial⟩, (fun _ h => (by cases h)), ⟨oks_zI, oks_zI, oks_zI, oks_zI, oks_zI, oks_zI, oks_zI, trivial⟩, ⟨oks_zI, oks_zI, ⟨false, rfl⟩, trivial⟩, (fun _ h => (by cases h))⟩
def MV.bare (m : MV) : MV :=
  if m.kind = 0 then { MV.none with kind := m.kind, ver := m.ver, rc := m.rc }
  else if m.kind = 1 then { MV.none with kind := m.kind, ver := m.ver, time := m.time }
  else if m.kind = 2 then { MV.none with kind := m.kind, ver := m.ver, num := m.num }
  else if m.kind = 3 then { MV.none with kind := m.kind, ver := m.ver, ch := m.ch, bins := m.bins, ct := m.ct }
  else { MV.none with kind := m.kind, ver := m.ver, kh := m.kh, ents := m.ents }
def prCmd (l : List UInt8) (a : Nat) : PR (List Value × List (List Value) × List Value) :=
  (prs l chF a).bind fun ch a1 => (prl l 8 binF a1).bind fun bins a2 => (prs l ctF a2).bind fun ct a3 => .ok (ch, bins, ct) a3
def prChunk (l : List UInt8) (a : Nat) : PR (List Value × List (List Value)) :=
  (prs l khF a).bind fun kh a1 => (prl l 64 entryF a1).bind fun ents a2 => .ok (kh, ents) a2
def prI (l : List UInt8) (a : Nat) : PR Int := if uCode l a = 0 then .ok (whole (uVal l a)) (uNext l a) else .bad (uCode l a) a
def prBody (l : List UInt8) (k v : Int) (a : Nat) : PR MV :=
  if k = 0 then (prs l recF a).bind fun vs b => .ok { MV.none with kind := k, ver := v, rc := vs } b
  else if k = 1 then (prI l a).bind fun x b => .ok { MV.none with kind := k, ver := v, time := x } b
  else if k = 2 then (prI l a).bind fun x b => .ok { MV.none with kind := k, ver := v, num := x } b
  else if k = 3 then (prCmd l a).bind fun x b => .ok { MV.none with kind := k, ver := v, ch := x.1, bins := x.2.1, ct := x.2.2 } b
  else (prChunk l a).bind fun x b => .ok { MV.none with kind := k, ver := v, kh := x.1, ents := x.2 } b
def prMsg (l : List UInt8) (a : Nat) : PR MV :=
  (prI l a).bind fun k a1 => if 0 ≤ k ∧ k ≤ 4 then (prI l a1).bind fun v a2 => prBody l k v a2 else .bad 6 a
theorem prI_went {l : List UInt8} {a b : Nat} {x : Int} (h : prI l a = .ok x b) : Went l (i64r x) (enc (zz x)) a b := by
  unfold prI at h
  split at h
  · rename_i hc
    cases h
    obtain ⟨h1, h2, h3⟩ := u_went hc
    exact ⟨whole_rng (val_lt _), h1, h2, by rw [zz_whole, h3]⟩
  · cases h
theorem prCmd_went {l : List UInt8} {a b : Nat} {x : List Value × List (List Value) × List Value} (ha : a ≤ l.length) (h : prCmd l a = .ok x b) : Went l (Oks chF x.1 ∧ (x.2.1.length ≤ 8 ∧ ∀ vs ∈ x.2.1, Oks binF vs) ∧ Oks ctF x.2.2) (encCmd x.1 x.2.1 x.2.2) a b := by
  obtain ⟨ch, a1, h1, h⟩ := PR.bind_ok h
  obtain ⟨bins, a2, h2, h⟩ := PR.bind_ok h
  obtain ⟨ct, a3, h3, h⟩ := PR.bind_ok h
  cases h
  obtain ⟨o1, l1, m1, e1⟩ := prs_went ha h1
  obtain ⟨o2, l2, m2, e2⟩ := prl_went h2
  obtain ⟨o3, l3, m3, e3⟩ := prs_went m2 h3
  refine ⟨⟨o1, o2, o3⟩, by omega, m3, ?_⟩
  unfold encCmd
  rw [e1, e2, e3, cut_app l2 l3, cut_app l1 (by omega)]
theorem prChunk_went {l : List UInt8} {a b : Nat} {x : List Value × List (List Value)} (ha : a ≤ l.length) (h : prChunk l a = .ok x b) : Went l (Oks khF x.1 ∧ (x.2.length ≤ 64 ∧ ∀ vs ∈ x.2, Oks entryF vs)) (encChunk x.1 x.2) a b := by
  obtain ⟨kh, a1, h1, h⟩ := PR.bind_ok h
  obtain ⟨ents, a2, h2, h⟩ := PR.bind_ok h
  cases h
  obtain ⟨o1, l1, m1, e1⟩ := prs_went ha h1
  obtain ⟨o2, l2, m2, e2⟩ := prl_went h2
  refine ⟨⟨o1, o2⟩, by omega, m2, ?_⟩
  unfold encChunk
  rw [e1, e2, cut_app l1 l2]
structure MV.Lim (m : MV) : Prop where
  ok : m.Ok
  k0 : 0 ≤ m.kind
  k4 : m.kind ≤ 4
  nb : m.bins.length ≤ 8
  ne : m.ents.length ≤ 64
  bare : m.bare = m
theorem prBody_went {l : List UInt8} {a b : Nat} {k v : Int} {m : MV} (ha : a ≤ l.length) (hk : i64r k) (hv : i64r v) (h0 : 0 ≤ k ∧ k ≤ 4) (h : prBody l k v a = .ok m b) : Went l (m.Lim ∧ m.kind = k ∧ m.ver = v) m.body a b := by
  have N := MV.none_ok
  unfold prBody at h
  split at h
  · rename_i e
    obtain ⟨x, a', h1, h2⟩ := PR.bind_ok h
    cases h2
    obtain ⟨o1, l1, l2, e1⟩ := prs_went ha h1
    refine ⟨⟨⟨⟨hk, hv, o1, N.time, N.num, N.ch, N.bins, N.ct, N.kh, N.ents⟩, h0.1, h0.2, by simp [MV.none], by simp [MV.none], ?_⟩, rfl, rfl⟩, l1, l2, ?_⟩
    · unfold MV.bare; rw [if_pos e]
    · unfold MV.body; rw [if_pos e]; exact e1
  · rename_i n0
    split at h
    · rename_i e
      obtain ⟨x, a', h1, h2⟩ := PR.bind_ok h
      cases h2
      obtain ⟨o1, l1, l2, e1⟩ := prI_went h1
      refine ⟨⟨⟨⟨hk, hv, N.rc, o1, N.num, N.ch, N.bins, N.ct, N.kh, N.ents⟩, h0.1, h0.2, by simp [MV.none], by simp [MV.none], ?_⟩, rfl, rfl⟩, l1, l2, ?_⟩
      · unfold MV.bare; rw [if_neg n0, if_pos e]
      · unfold MV.body; rw [if_neg n0, if_pos e]; exact e1
    · rename_i n1
      split at h
      · rename_i e
        obtain ⟨x, a', h1, h2⟩ := PR.bind_ok h
        cases h2
        obtain ⟨o1, l1, l2, e1⟩ := prI_went h1
        refine ⟨⟨⟨⟨hk, hv, N.rc, N.time, o1, N.ch, N.bins, N.ct, N.kh, N.ents⟩, h0.1, h0.2, by simp [MV.none], by simp [MV.none], ?_⟩, rfl, rfl⟩, l1, l2, ?_⟩
        · unfold MV.bare; rw [if_neg n0, if_neg n1, if_pos e]
        · unfold MV.body; rw [if_neg n0, if_neg n1, if_pos e]; exact e1
      · rename_i n2
        split at h
        · rename_i e
          obtain ⟨x, a', h1, h2⟩ := PR.bind_ok h
          cases h2
          obtain ⟨⟨o1, o2, o3⟩, l1, l2, e1⟩ := prCmd_went ha h1
          refine ⟨⟨⟨⟨hk, hv, N.rc, N.time, N.num, o1, o2.2, o3, N.kh, N.ents⟩, h0.1, h0.2, o2.1, by simp [MV.none], ?_⟩, rfl, rfl⟩, l1, l2, ?_⟩
          · unfold MV.bare; rw [if_neg n0, if_neg n1, if_neg n2, if_pos e]
          · unfold MV.body; rw [if_neg n0, if_neg n1, if_neg n2, if_pos e]; exact e1
        · rename_i n3
          obtain ⟨x, a', h1, h2⟩ := PR.bind_ok h
          cases h2
          obtain ⟨⟨o1, o2⟩, l1, l2, e1⟩ := prChunk_went ha h1
          refine ⟨⟨⟨⟨hk, hv, N.rc, N.time, N.num, N.ch, N.bins, N.ct, o1, o2.2⟩, h0.1, h0.2, by simp [MV.none], o2.1, ?_⟩, rfl, rfl⟩, l1, l2, ?_⟩
          · unfold MV.bare; rw [if_neg n0, if_neg n1, if_neg n2, if_neg n3]
          · have e4 : k = 4 := by omega
            unfold MV.body; rw [if_neg n0, if_neg n1, if_neg n2, if_neg n3, if_pos e4]; exact e1
theorem prMsg_went {l : List UInt8} {a b : Nat} {m : MV} (h : prMsg l a = .ok m b) : Went l m.Lim m.enc a b := by
  obtain ⟨k, a1, h1, h⟩ := PR.bind_ok h
  obtain ⟨ok, l1, m1, e1⟩ := prI_went h1
  split at h
  · rename_i hk
    obtain ⟨v, a2, h2, h⟩ := PR.bind_ok h
    obtain ⟨ov, l2, m2, e2⟩ := prI_went h2
    obtain ⟨⟨o3, ek, ev⟩, l3, m3, e3⟩ := prBody_went m2 ok ov hk h
    refine ⟨o3, by omega, m3, ?_⟩
    unfold MV.enc
    rw [ek, ev, e1, e2, e3, cut_app l2 l3, cut_app l1 (by omega)]
  · cases h
theorem enc_prI {x : Int} (h : i64r x) (pre post : List UInt8) : prI (pre ++ (enc (zz x) ++ post)) pre.length = .ok x (pre ++ enc (zz x)).length := by
  obtain ⟨e1, e2, e3⟩ := read_enc (pre := pre) (post := post) (zz_lt h.1 h.2)
  unfold prI
  rw [if_pos e1, e2, e3, whole_zz h.1 h.2]
theorem enc_prCmd {ch ct : List Value} {bins : List (List Value)} (h1 : Oks chF ch) (h2 : ∀ vs ∈ bins, Oks binF vs) (hn : bins.length ≤ 8) (h3 : Oks ctF ct) (pre post : List UInt8) : prCmd (pre ++ (encCmd ch bins ct ++ post)) pre.length = .ok (ch, bins, ct) (pre ++ encCmd ch bins ct).length := by
  have e1 := encs_prs h1 pre (encl binF bins ++ (encs ctF ct ++ post))
  have e2 := encl_prl (es := binF) (most := 8) hn (by omega) h2 (pre ++ encs chF ch) (encs ctF ct ++ post)
  have e3 := encs_prs h3 (pre ++ encs chF ch ++ encl binF bins) post
  simp only [List.append_assoc] at e1 e2 e3
  unfold prCmd encCmd
  simp only [List.append_assoc]
  rw [e1]
  simp only [PR.bind]
  rw [e2]
  simp only
  rw [e3]
theorem enc_prChunk {kh : List Value} {ents : List (List Value)} (h1 : Oks khF kh) (h2 : ∀ vs ∈ ents, Oks entryF vs) (hn : ents.length ≤ 64) (pre post : List UInt8) : prChunk (pre ++ (encChunk kh ents ++ post)) pre.length = .ok (kh, ents) (pre ++ encChunk kh ents).length := by
  have e1 := encs_prs h1 pre (encl entryF ents ++ post)
  have e2 := encl_prl (es := entryF) (most := 64) hn (by omega) h2 (pre ++ encs khF kh) post
  simp only [List.append_assoc] at e1 e2
  unfold prChunk encChunk
  simp only [List.append_assoc]
  rw [e1]
  simp only [PR.bind]
  rw [e2]
theorem enc_prBody {m : MV} (h : m.Lim) (pre post : List UInt8) : prBody (pre ++ (m.body ++ post)) m.kind m.ver pre.length = .ok m (pre ++ m.body).length := by
  have hb := h.bare
  unfold prBody
  split
  · rename_i e
    have : m.body = encs recF m.rc := by unfold MV.body; rw [if_pos e]
    rw [this, encs_prs h.ok.rc]
    simp only [PR.bind]
    congr 1
    unfold MV.bare at hb; rw [if_pos e] at hb; exact hb
  · rename_i n0
    split
    · rename_i e
      have : m.body = enc (zz m.time) := by unfold MV.body; rw [if_neg n0, if_pos e]
      rw [this, enc_prI h.ok.time]
      simp only [PR.bind]
      congr 1
      unfold MV.bare at hb; rw [if_neg n0, if_pos e] at hb; exact hb
    · rename_i n1
      split
      · rename_i e
        have : m.body = enc (zz m.num) := by unfold MV.body; rw [if_neg n0, if_neg n1, if_pos e]
        rw [this, enc_prI h.ok.num]
        simp only [PR.bind]
        congr 1
        unfold MV.bare at hb; rw [if_neg n0, if_neg n1, if_pos e] at hb; exact hb
      · rename_i n2
        split
        · rename_i e
          have : m.body = encCmd m.ch m.bins m.ct := by unfold MV.body; rw [if_neg n0, if_neg n1, if_neg n2, if_pos e]
          rw [this, enc_prCmd h.ok.ch h.ok.bins h.nb h.ok.ct]
          simp only [PR.bind]
          congr 1
          unfold MV.bare at hb; rw [if_neg n0, if_neg n1, if_neg n2, if_pos e] at hb; exact hb
        · rename_i n3
          have e4 : m.kind = 4 := by have := h.k0; have := h.k4; omega
          have : m.body = encChunk m.kh m.ents := by unfold MV.body; rw [if_neg n0, if_neg n1, if_neg n2, if_neg n3, if_pos e4]
          rw [this, enc_prChunk h.ok.kh h.ok.ents h.ne]
          simp only [PR.bind]
          congr 1
          unfold MV.bare at hb; rw [if_neg n0, if_neg n1, if_neg n2, if_neg n3] at hb; exact hb
theorem enc_prMsg {m : MV} (h : m.Lim) (pre post : List UInt8) : prMsg (pre ++ (m.enc ++ post)) pre.length = .ok m (pre ++ m.enc).length := by
  have e1 := enc_prI h.ok.kind pre (enc (zz m.ver) ++ (m.body ++ post))
  have e2 := enc_prI h.ok.ver (pre ++ enc (zz m.kind)) (m.body ++ post)
  have e3 := enc_prBody h (pre ++ enc (zz m.kind) ++ enc (zz m.ver)) post
  simp only [List.append_assoc] at e1 e2 e3
  unfold prMsg MV.enc
  simp only [List.append_assoc]
  rw [e1]
  simp only [PR.bind]
  rw [if_pos ⟨h.k0, h.k4⟩, e2]
  simp only
  rw [e3]
end Go.Proofs.YtakedlockchpcaaDoor
namespace Go.Proofs.YtakedlockchpcaaDoor
open Go.RowKit
attribute [local irreducible] Fn WC WL WR OW Qt YieldFn QW FnP FnD FnE
section
variable {W : Wy Tryd.prog} (M : Meth W)
include M
theorem small_flat : Flat W 52 W.recv [.ww] := by
  intro s Lp R i b cs E fr off vs hM hT hr hR hv hl hfr
  obtain ⟨x0, vs, rfl, hx, hv⟩ := hv.split
  obtain rfl := hv.nil
  have hc := hl.cons.1
  have hX := get_app (A := Lp) hR
  have iw := M.iw
  have m1 := M.mw
  have hz : off < cs.size := (Array.getElem?_eq_some_iff.1 hc).1
  have hx2 := hx
  obtain ⟨q, rfl, q0, q1⟩ := hx2
  refine FnE_enter Tryd.func52 rfl Tryd.ntmps52 rfl fun g => ?_
  unfold Wy.recv
  repeat (first | refine RQ ?_ | ((first | refine WL_Q ?_); (first | refine QW_of (Qt_nilCheck_m rfl) ?_)) | (refine RE ?_; try intro _) | refine RC ?_ | refine WC_region ?_)
  rename_i mb
  refine WL_op rfl (OW_locI M.mw M.cw hM hT (W.room_le hr (Nat.le_refl _)) hx rfl ?_ ?_)
  · intro s' x' Lp' hs hM'
    obtain ⟨y, rfl, _⟩ := W.stp_ok hs hx
    have hX' : ((mb, Obj.cells #[Value.int .i64 y] 2 (0, 0)) :: (Lp' ++ R))[(Lp'.length + i) + 1]? = some _ := get_app (A := Lp') hR
    repeat (first | refine RQ ?_ | ((first | refine WL_Q ?_); (first | refine QW_of (Qt_nilCheck_m rfl) ?_)) | (refine RE ?_; try intro _) | refine RC ?_ | refine WC_region ?_)
    refine WL_op rfl (OW_store1F (v := .int .i64 y) rfl _ hX' hz (hfr.sub 0 1 (Nat.le_refl _)) (WL_nil ?_))
    refine ⟨.tuple #[], _, Res0 rfl, .cons _ (.refl _), rfl, s', [.int .i64 y], Lp', cs.setIfInBounds off (.int .i64 y), W.stps1_ok hs, ?_, hM', Upd.one _ hz, W.keepT hT hR hc hs⟩
    exact set_app
  · intro c a p s' Lp' hs hM'
    exact ⟨_, rfl, c, a, p, s', Lp', cs, W.stps1_bad hs, rfl, by rw [set_same hR], hM', rfl⟩
theorem key_flat : Flat W 63 W.recv [.kk] := by
  intro s Lp R i b cs E fr off vs hM hT hr hR hv hl hfr
  obtain ⟨x0, vs, rfl, hx, hv⟩ := hv.split
  obtain rfl := hv.nil
  have hc := hl.cons.1
  have hz : off < cs.size := (Array.getElem?_eq_some_iff.1 hc).1
  obtain ⟨q, rfl, q0, q1⟩ := hx
  have hw : IntKind.u64.wrap q = q := wU64 q0 (by omega)
  refine FnE_enter Tryd.func63 rfl Tryd.ntmps63 rfl fun g => ?_
  unfold Wy.recv
  repeat (first | refine RQ ?_ | ((first | refine WL_Q ?_); (first | refine QW_of (Qt_nilCheck_m rfl) ?_)) | (refine RE ?_; try intro _) | refine RC ?_ | refine WC_region ?_)
  have ih := M.ih
  refine WL_op rfl (OW_invE M.mh rfl (M.ch s Lp R hM) ?_ (fun _ _ h => h.elim))
  rintro _ _ ⟨rfl, Lp1, rfl, hM1⟩
  have hX := get_app (A := Lp1) hR
  repeat (first | refine RQ ?_ | ((first | refine WL_Q ?_); (first | refine QW_of (Qt_nilCheck_m rfl) ?_)) | (refine RE ?_; try intro _) | refine RC ?_ | refine WC_region (id := 0) ?_ | refine WC_region (id := 1) ?_ | refine WC_region (id := 3) ?_ | refine WC_region (id := 4) ?_)
  rw [hw]
  repeat (first | refine RQ ?_ | ((first | refine WL_Q ?_); (first | refine QW_of (Qt_nilCheck_m rfl) ?_)) | (refine RE ?_; try intro _) | refine RC ?_ | refine WC_region ?_)
  rename_i mb
  have jn := M.jn
  refine WL_op rfl (OW_locI M.mn M.cn hM1 hT (W.hr_room hr) ⟨q, rfl, q0, by omega⟩ rfl ?_ ?_)
  · intro s' x' Lp' hs hM'
    obtain ⟨y, rfl, y0, y1⟩ := W.stp_ok hs ⟨q, rfl, q0, by omega⟩
    repeat (first | refine RQ ?_ | ((first | refine WL_Q ?_); (first | refine QW_of (Qt_nilCheck_m rfl) ?_)) | (refine RE ?_; try intro _) | refine RC ?_ | refine WC_region ?_)
    have im := M.im
    have hF := (M.cm s' Lp' ((mb, Obj.cells #[Value.int .u64 y] 50 (0, 0)) :: R) (decide (y ≤ 4294967295)) 4 hM')
    refine WL_op rfl (OW_invE M.mm rfl ((hF.dropP (Rp' := fun u L' => ∃ c a p, W.mst (decide (y ≤ 4294967295)) 4 s' = some (c, a) ∧ u = flt p ∧ L' = (p, fltO c a) :: (Lp' ++ R)) (fun u L' ⟨c, a, p, h1, h2, h3⟩ => ⟨(p, fltO c a) :: (Lp' ++ R), by rw [h3]; exact .cons_cons _ (.append (.refl _) (.cons _ (.refl _))), c, a, p, h1, h2, rfl⟩)).perm List.perm_middle (fun v L' h => ⟨_, .refl _, h⟩) (fun v L' h => ⟨_, .refl _, h⟩)) ?_ ?_)
    · rintro _ _ ⟨rfl, rfl, hm⟩
      obtain ⟨hk, y2⟩ := W.key_ok q0 q1 hs hm
      have hX0 : (Lp' ++ ((mb, Obj.cells #[Value.int .u64 y] 50 (0, 0)) :: R))[Lp'.length]? = some _ := get_app (A := Lp') (i := 0) rfl
      have hX' := get_app (A := Lp') (R := (mb, Obj.cells #[Value.int .u64 y] 50 (0, 0)) :: R) (i := i + 1) hR
      have hw2 : IntKind.u32.wrap y = y := by
        simp only [IntKind.wrap, IntKind.bits, IntKind.signed]
        simp; omega
      repeat (first | refine RQ ?_ | ((first | refine WL_Q ?_); (first | refine QW_of (Qt_nilCheck_m rfl) ?_)) | (refine RE ?_; try intro _) | refine RC ?_ | refine WC_region ?_)
      rw [hw2]
      refine WL_op rfl (OW_store1F (v := .int .u32 y) rfl _ hX' hz (hfr.sub 0 1 (Nat.le_refl _)) (WL_nil ?_))
      refine ⟨.tuple #[], Lp' ++ R.set i (b, .cells (cs.setIfInBounds off (.int .u32 y)) E fr), Res0 rfl, ?_, rfl, s', [.int .u32 y], Lp', cs.setIfInBounds off (.int .u32 y), W.stps1_ok hk, rfl, hM', Upd.one _ hz, W.keepT hT hR hc hk⟩
      rw [set_app]
      exact .append (.refl _) (.cons _ (.refl _))
    · rintro _ _ ⟨c, a, p, hm, rfl, rfl⟩
      exact ⟨_, rfl, c, a, p, s', Lp', cs, W.stps1_bad (W.key_must hs hm), rfl, by rw [set_same hR], hM', rfl⟩
  · intro c a p s' Lp' hs hM'
    exact ⟨_, rfl, c, a, p, s', Lp', cs, W.stps1_bad (W.key_bad hs), rfl, by rw [set_same hR], hM', rfl⟩
set_option maxHeartbeats 4000000 in
theorem rec_flat : Flat W 46 W.recv recF := by
  intro s Lp R i b cs E fr off vs hM0 hT0 hr0 hR hv hl hfr
  obtain ⟨x0, vs, rfl, hx0, hv⟩ := hv.split
  obtain ⟨x1, vs, rfl, hx1, hv⟩ := hv.split
  obtain ⟨x2, vs, rfl, hx2, hv⟩ := hv.split
  obtain ⟨x3, vs, rfl, hx3, hv⟩ := hv.split
  obtain ⟨x4, vs, rfl, hx4, hv⟩ := hv.split
  obtain ⟨x5, vs, rfl, hx5, hv⟩ := hv.split
  obtain rfl := hv.nil
  have ho0 : Oks [.kk] [x0] := ⟨hx0, trivial⟩
  have g0 : Lies cs (off + 0) [x0] := hl.cut 0 1
  have ho1 : Oks [.ww] [x1] := ⟨hx1, trivial⟩
  have g1 : Lies cs (off + 1) [x1] := hl.cut 1 1
  have ho2 : Oks [.ww] [x2] := ⟨hx2, trivial⟩
  have g2 : Lies cs (off + 2) [x2] := hl.cut 2 1
  have ho3 : Oks [.bb] [x3] := ⟨hx3, trivial⟩
  have g3 : Lies cs (off + 3) [x3] := hl.cut 3 1
  have ho4 : Oks [.tt] [x4] := ⟨hx4, trivial⟩
  have g4 : Lies cs (off + 4) [x4] := hl.cut 4 1
  have ho5 : Oks [.tt] [x5] := ⟨hx5, trivial⟩
  have g5 : Lies cs (off + 5) [x5] := hl.cut 5 1
  have qw := M.mw
  have pw := M.iw
  have qt := M.mt
  have pt := M.it
  have qb := M.mo
  have pb := M.io
  refine FnE_enter Tryd.func46 rfl Tryd.ntmps46 rfl fun g => ?_
  unfold Wy.recv
  have U0 : Upd cs cs off [] := Upd.refl_of (fun j v h => by simp at h)
  have A0 : W.stps [] s [] = .ok s [] := rfl
  have O0 : Oks [] [] := trivial
  have L0 : ([] : List Value).length = 0 := rfl
  repeat (first | refine RQ ?_ | ((first | refine WL_Q ?_); (first | refine QW_of (Qt_nilCheck_m rfl) ?_)) | refine RC ?_ | refine WC_region (id := 0) ?_)
  have l0 : Lies cs (off + 0) [x0] := fun q v h => by
    rw [U0.rest _ (.inr (by rw [L0]; omega))]
    exact g0 q v h
  refine WL_op rfl ?_
  refine (OW_flatF (key_flat M) hM0 hT0 (W.room_le hr0 (by decide)) hR ho0 l0 (hfr.sub 0 1 (by decide)) rfl ⟨?_, ?_⟩)
  rotate_left
  · intro c a p s' Lp' cs' hs hM' hz
    exact ⟨_, rfl, c, a, p, s', Lp', cs', W.bad_cat [.ww, .ww, .bb, .tt, .tt] [x1, x2, x3, x4, x5] (W.cat_bad A0 O0 hs) (Oks.app O0 ho0), rfl, rfl, hM', hz.trans U0.size⟩
  intro s1 us0 Lp1 cs1 hs0 hM1 hu0 hT1
  have n0 : us0.length = 1 := W.stps_len hs0 ho0
  have U1 := U0.app hu0 (by rw [L0])
  have L1 := (show ([] ++ us0).length = 1 by rw [List.length_append, L0, n0])
  have A1 := W.cat_ok A0 O0 hs0
  have O1 := Oks.app O0 ho0
  have hr1 := W.stps_room (n := 5) hs0 ho0 (W.room_le hr0 (by decide))
  have R1 := get_set_self hR (b, Obj.cells cs1 E fr)
  repeat (first | refine RQ ?_ | ((first | refine WL_Q ?_); (first | refine QW_of (Qt_nilCheck_m rfl) ?_)) | refine RC ?_ | refine WC_region (id := 0) ?_)
  refine WC_draw_sub (id := 1) 8 (.calm 0 <| .calm 1 <| .calm 2 <| .calm 3 <| .calm 4 <| .calm 5 <| .calm 6 <| .must 7 <| .done) mixed (by kernel_rfl) (List.nil_sublist _) ?_
  repeat (first | refine RQr ?_ | ((first | refine WL_Q ?_ | refine WR_Q rfl ?_ | refine WR_late rfl rfl rfl (OW_Q ?_)); (first | refine QW_of (Qt_nilCheck_m rfl) ?_)) | refine RC ?_ | refine RU ?_ | refine WC_draw_all (id := 1) 8 (.calm 0 <| .calm 1 <| .calm 2 <| .calm 3 <| .calm 4 <| .calm 5 <| .calm 6 <| .must 7 <| .done) mixed (by kernel_rfl) ?_)
  have l1 : Lies cs1 (off + 1) [x1] := fun q v h => by
    rw [U1.rest _ (.inr (by rw [L1]; omega))]
    exact g1 q v h
  refine WR_op rfl rfl ?_
  refine (OW_flatI M.mw M.cw hM1 hT1 (W.room_le hr1 (by decide)) R1 hx1 (l1 0 _ rfl) (hfr.sub 1 1 (by decide)) rfl ⟨?_, ?_⟩)
  rotate_left
  · intro c a p s' Lp' cs' hs hM' hz
    exact ⟨_, rfl, c, a, p, s', Lp', cs', W.bad_cat [.ww, .bb, .tt, .tt] [x2, x3, x4, x5] (W.cat_bad A1 O1 hs) (Oks.app O1 ho1), rfl, by rw [List.set_set], hM', hz.trans U1.size⟩
  intro s2 us1 Lp2 cs2 hs1 hM2 hu1 hT2
  have n1 : us1.length = 1 := W.stps_len hs1 ho1
  have U2 := U1.app hu1 (by rw [L1])
  have L2 := (show (([] ++ us0) ++ us1).length = 2 by rw [List.length_append, L1, n1])
  have A2 := W.cat_ok A1 O1 hs1
  have O2 := Oks.app O1 ho1
  have hr2 := W.stps_room (n := 4) hs1 ho1 (W.room_le hr1 (by decide))
  rw [List.set_set] at hT2
  rw [List.set_set]
  have R2 := get_set_self hR (b, Obj.cells cs2 E fr)
  refine ⟨(fun q hq => (by cases hq)), ?_⟩
  repeat (first | refine RQr ?_ | ((first | refine WL_Q ?_ | refine WR_Q rfl ?_ | refine WR_late rfl rfl rfl (OW_Q ?_)); (first | refine QW_of (Qt_nilCheck_m rfl) ?_)) | refine RC ?_ | refine RU ?_ | refine WC_draw_all (id := 1) 8 (.calm 0 <| .calm 1 <| .calm 2 <| .calm 3 <| .calm 4 <| .calm 5 <| .calm 6 <| .must 7 <| .done) mixed (by kernel_rfl) ?_)
  refine WC_draw_sub (id := 2) 8 (.calm 0 <| .calm 1 <| .calm 2 <| .calm 3 <| .calm 4 <| .calm 5 <| .calm 6 <| .must 7 <| .done) mixed (by kernel_rfl) (List.nil_sublist _) ?_
  repeat (first | refine RQr ?_ | ((first | refine WL_Q ?_ | refine WR_Q rfl ?_ | refine WR_late rfl rfl rfl (OW_Q ?_)); (first | refine QW_of (Qt_nilCheck_m rfl) ?_)) | refine RC ?_ | refine RU ?_ | refine WC_draw_all (id := 2) 8 (.calm 0 <| .calm 1 <| .calm 2 <| .calm 3 <| .calm 4 <| .calm 5 <| .calm 6 <| .must 7 <| .done) mixed (by kernel_rfl) ?_)
  have l2 : Lies cs2 (off + 2) [x2] := fun q v h => by
    rw [U2.rest _ (.inr (by rw [L2]; omega))]
    exact g2 q v h
  refine WR_op rfl rfl ?_
  refine (OW_flatI M.mw M.cw hM2 hT2 (W.room_le hr2 (by decide)) R2 hx2 (l2 0 _ rfl) (hfr.sub 2 1 (by decide)) rfl ⟨?_, ?_⟩)
  rotate_left
  · intro c a p s' Lp' cs' hs hM' hz
    exact ⟨_, rfl, c, a, p, s', Lp', cs', W.bad_cat [.bb, .tt, .tt] [x3, x4, x5] (W.cat_bad A2 O2 hs) (Oks.app O2 ho2), rfl, by rw [List.set_set], hM', hz.trans U2.size⟩
  intro s3 us2 Lp3 cs3 hs2 hM3 hu2 hT3
  have n2 : us2.length = 1 := W.stps_len hs2 ho2
  have U3 := U2.app hu2 (by rw [L2])
  have L3 := (show ((([] ++ us0) ++ us1) ++ us2).length = 3 by rw [List.length_append, L2, n2])
  have A3 := W.cat_ok A2 O2 hs2
  have O3 := Oks.app O2 ho2
  have hr3 := W.stps_room (n := 3) hs2 ho2 (W.room_le hr2 (by decide))
  rw [List.set_set] at hT3
  rw [List.set_set]
  have R3 := get_set_self hR (b, Obj.cells cs3 E fr)
  refine ⟨(fun q hq => (by cases hq)), ?_⟩
  repeat (first | refine RQr ?_ | ((first | refine WL_Q ?_ | refine WR_Q rfl ?_ | refine WR_late rfl rfl rfl (OW_Q ?_)); (first | refine QW_of (Qt_nilCheck_m rfl) ?_)) | refine RC ?_ | refine RU ?_ | refine WC_draw_all (id := 2) 8 (.calm 0 <| .calm 1 <| .calm 2 <| .calm 3 <| .calm 4 <| .calm 5 <| .calm 6 <| .must 7 <| .done) mixed (by kernel_rfl) ?_)
  refine WC_draw_sub (id := 3) 8 (.calm 0 <| .calm 1 <| .calm 2 <| .calm 3 <| .calm 4 <| .calm 5 <| .calm 6 <| .must 7 <| .done) mixed (by kernel_rfl) (List.nil_sublist _) ?_
  repeat (first | refine RQr ?_ | ((first | refine WL_Q ?_ | refine WR_Q rfl ?_ | refine WR_late rfl rfl rfl (OW_Q ?_)); (first | refine QW_of (Qt_nilCheck_m rfl) ?_)) | refine RC ?_ | refine RU ?_ | refine WC_draw_all (id := 3) 8 (.calm 0 <| .calm 1 <| .calm 2 <| .calm 3 <| .calm 4 <| .calm 5 <| .calm 6 <| .must 7 <| .done) mixed (by kernel_rfl) ?_)
  have l3 : Lies cs3 (off + 3) [x3] := fun q v h => by
    rw [U3.rest _ (.inr (by rw [L3]; omega))]
    exact g3 q v h
  refine WR_op rfl rfl ?_
  refine (OW_flatI M.mo M.co hM3 hT3 (W.room_le hr3 (by decide)) R3 hx3 (l3 0 _ rfl) (hfr.sub 3 1 (by decide)) rfl ⟨?_, ?_⟩)
  rotate_left
  · intro c a p s' Lp' cs' hs hM' hz
    exact ⟨_, rfl, c, a, p, s', Lp', cs', W.bad_cat [.tt, .tt] [x4, x5] (W.cat_bad A3 O3 hs) (Oks.app O3 ho3), rfl, by rw [List.set_set], hM', hz.trans U3.size⟩
  intro s4 us3 Lp4 cs4 hs3 hM4 hu3 hT4
  have n3 : us3.length = 1 := W.stps_len hs3 ho3
  have U4 := U3.app hu3 (by rw [L3])
  have L4 := (show (((([] ++ us0) ++ us1) ++ us2) ++ us3).length = 4 by rw [List.length_append, L3, n3])
  have A4 := W.cat_ok A3 O3 hs3
  have O4 := Oks.app O3 ho3
  have hr4 := W.stps_room (n := 2) hs3 ho3 (W.room_le hr3 (by decide))
  rw [List.set_set] at hT4
  rw [List.set_set]
  have R4 := get_set_self hR (b, Obj.cells cs4 E fr)
  refine ⟨(fun q hq => (by cases hq)), ?_⟩
  repeat (first | refine RQr ?_ | ((first | refine WL_Q ?_ | refine WR_Q rfl ?_ | refine WR_late rfl rfl rfl (OW_Q ?_)); (first | refine QW_of (Qt_nilCheck_m rfl) ?_)) | refine RC ?_ | refine RU ?_ | refine WC_draw_all (id := 3) 8 (.calm 0 <| .calm 1 <| .calm 2 <| .calm 3 <| .calm 4 <| .calm 5 <| .calm 6 <| .must 7 <| .done) mixed (by kernel_rfl) ?_)
  refine WC_draw_sub (id := 4) 8 (.calm 0 <| .calm 1 <| .calm 2 <| .calm 3 <| .calm 4 <| .calm 5 <| .calm 6 <| .must 7 <| .done) mixed (by kernel_rfl) (List.nil_sublist _) ?_
  repeat (first | refine RQr ?_ | ((first | refine WL_Q ?_ | refine WR_Q rfl ?_ | refine WR_late rfl rfl rfl (OW_Q ?_)); (first | refine QW_of (Qt_nilCheck_m rfl) ?_)) | refine RC ?_ | refine RU ?_ | refine WC_draw_all (id := 4) 8 (.calm 0 <| .calm 1 <| .calm 2 <| .calm 3 <| .calm 4 <| .calm 5 <| .calm 6 <| .must 7 <| .done) mixed (by kernel_rfl) ?_)
  have l4 : Lies cs4 (off + 4) [x4] := fun q v h => by
    rw [U4.rest _ (.inr (by rw [L4]; omega))]
    exact g4 q v h
  refine WR_op rfl rfl ?_
  refine (OW_flatI M.mt M.ct hM4 hT4 (W.room_le hr4 (by decide)) R4 hx4 (l4 0 _ rfl) (hfr.sub 4 1 (by decide)) rfl ⟨?_, ?_⟩)
  rotate_left
  · intro c a p s' Lp' cs' hs hM' hz
    exact ⟨_, rfl, c, a, p, s', Lp', cs', W.bad_cat [.tt] [x5] (W.cat_bad A4 O4 hs) (Oks.app O4 ho4), rfl, by rw [List.set_set], hM', hz.trans U4.size⟩
  intro s5 us4 Lp5 cs5 hs4 hM5 hu4 hT5
  have n4 : us4.length = 1 := W.stps_len hs4 ho4
  have U5 := U4.app hu4 (by rw [L4])
  have L5 := (show ((((([] ++ us0) ++ us1) ++ us2) ++ us3) ++ us4).length = 5 by rw [List.length_append, L4, n4])
  have A5 := W.cat_ok A4 O4 hs4
  have O5 := Oks.app O4 ho4
  have hr5 := W.stps_room (n := 1) hs4 ho4 (W.room_le hr4 (by decide))
  rw [List.set_set] at hT5
  rw [List.set_set]
  have R5 := get_set_self hR (b, Obj.cells cs5 E fr)
  refine ⟨(fun q hq => (by cases hq)), ?_⟩
  repeat (first | refine RQr ?_ | ((first | refine WL_Q ?_ | refine WR_Q rfl ?_ | refine WR_late rfl rfl rfl (OW_Q ?_)); (first | refine QW_of (Qt_nilCheck_m rfl) ?_)) | refine RC ?_ | refine RU ?_ | refine WC_draw_all (id := 4) 8 (.calm 0 <| .calm 1 <| .calm 2 <| .calm 3 <| .calm 4 <| .calm 5 <| .calm 6 <| .must 7 <| .done) mixed (by kernel_rfl) ?_)
  refine WC_draw_sub (id := 5) 8 (.calm 0 <| .calm 1 <| .calm 2 <| .calm 3 <| .calm 4 <| .calm 5 <| .calm 6 <| .must 7 <| .done) mixed (by kernel_rfl) (List.nil_sublist _) ?_
  repeat (first | refine RQr ?_ | ((first | refine WL_Q ?_ | refine WR_Q rfl ?_ | refine WR_late rfl rfl rfl (OW_Q ?_)); (first | refine QW_of (Qt_nilCheck_m rfl) ?_)) | refine RC ?_ | refine RU ?_ | refine WC_draw_all (id := 5) 8 (.calm 0 <| .calm 1 <| .calm 2 <| .calm 3 <| .calm 4 <| .calm 5 <| .calm 6 <| .must 7 <| .done) mixed (by kernel_rfl) ?_)
  have l5 : Lies cs5 (off + 5) [x5] := fun q v h => by
    rw [U5.rest _ (.inr (by rw [L5]; omega))]
    exact g5 q v h
  refine WR_op rfl rfl ?_
  refine (OW_flatI M.mt M.ct hM5 hT5 (W.room_le hr5 (by decide)) R5 hx5 (l5 0 _ rfl) (hfr.sub 5 1 (by decide)) rfl ⟨?_, ?_⟩)
  rotate_left
  · intro c a p s' Lp' cs' hs hM' hz
    exact ⟨_, rfl, c, a, p, s', Lp', cs', W.bad_cat [] [] (W.cat_bad A5 O5 hs) (Oks.app O5 ho5), rfl, by rw [List.set_set], hM', hz.trans U5.size⟩
  intro s6 us5 Lp6 cs6 hs5 hM6 hu5 hT6
  have n5 : us5.length = 1 := W.stps_len hs5 ho5
  have U6 := U5.app hu5 (by rw [L5])
  have L6 := (show (((((([] ++ us0) ++ us1) ++ us2) ++ us3) ++ us4) ++ us5).length = 6 by rw [List.length_append, L5, n5])
  have A6 := W.cat_ok A5 O5 hs5
  have O6 := Oks.app O5 ho5
  have hr6 := W.stps_room (n := 0) hs5 ho5 (W.room_le hr5 (by decide))
  rw [List.set_set] at hT6
  rw [List.set_set]
  have R6 := get_set_self hR (b, Obj.cells cs6 E fr)
  refine ⟨(fun q hq => (by cases hq)), ?_⟩
  repeat (first | refine RQr ?_ | ((first | refine WL_Q ?_ | refine WR_Q rfl ?_ | refine WR_late rfl rfl rfl (OW_Q ?_)); (first | refine QW_of (Qt_nilCheck_m rfl) ?_)) | refine RC ?_ | refine RU ?_ | refine WC_draw_all (id := 5) 8 (.calm 0 <| .calm 1 <| .calm 2 <| .calm 3 <| .calm 4 <| .calm 5 <| .calm 6 <| .must 7 <| .done) mixed (by kernel_rfl) ?_)
  exact ⟨.tuple #[], _, Res0 rfl, .refl _, rfl, s6, _, Lp6, cs6, A6, rfl, hM6, U6, hT6⟩
set_option maxHeartbeats 4000000 in
theorem op_flat : Flat W 68 W.recv opF := by
  intro s Lp R i b cs E fr off vs hM0 hT0 hr0 hR hv hl hfr
  obtain ⟨x0, vs, rfl, hx0, hv⟩ := hv.split
  obtain ⟨x1, vs, rfl, hx1, hv⟩ := hv.split
  obtain ⟨x2, vs, rfl, hx2, hv⟩ := hv.split
  obtain ⟨x3, vs, rfl, hx3, hv⟩ := hv.split
  obtain rfl := hv.nil
  have ho0 : Oks [.ww] [x0] := ⟨hx0, trivial⟩
  have g0 : Lies cs (off + 0) [x0] := hl.cut 0 1
  have ho1 : Oks [.ww] [x1] := ⟨hx1, trivial⟩
  have g1 : Lies cs (off + 1) [x1] := hl.cut 1 1
  have ho2 : Oks [.ww] [x2] := ⟨hx2, trivial⟩
  have g2 : Lies cs (off + 2) [x2] := hl.cut 2 1
  have ho3 : Oks [.ww] [x3] := ⟨hx3, trivial⟩
  have g3 : Lies cs (off + 3) [x3] := hl.cut 3 1
  have qw := M.mw
  have pw := M.iw
  refine FnE_enter Tryd.func68 rfl Tryd.ntmps68 rfl fun g => ?_
  unfold Wy.recv
  have U0 : Upd cs cs off [] := Upd.refl_of (fun j v h => by simp at h)
  have A0 : W.stps [] s [] = .ok s [] := rfl
  have O0 : Oks [] [] := trivial
  have L0 : ([] : List Value).length = 0 := rfl
  repeat (first | refine RQ ?_ | ((first | refine WL_Q ?_); (first | refine QW_of (Qt_nilCheck_m rfl) ?_)) | refine RC ?_ | refine WC_region (id := 0) ?_)
  have l0 : Lies cs (off + 0) [x0] := fun q v h => by
    rw [U0.rest _ (.inr (by rw [L0]; omega))]
    exact g0 q v h
  refine WL_op rfl ?_
  refine (OW_flatF (small_flat M) hM0 hT0 (W.room_le hr0 (by decide)) hR ho0 l0 (hfr.sub 0 1 (by decide)) rfl ⟨?_, ?_⟩)
  rotate_left
  · intro c a p s' Lp' cs' hs hM' hz
    exact ⟨_, rfl, c, a, p, s', Lp', cs', W.bad_cat [.ww, .ww, .ww] [x1, x2, x3] (W.cat_bad A0 O0 hs) (Oks.app O0 ho0), rfl, rfl, hM', hz.trans U0.size⟩
  intro s1 us0 Lp1 cs1 hs0 hM1 hu0 hT1
  have n0 : us0.length = 1 := W.stps_len hs0 ho0
  have U1 := U0.app hu0 (by rw [L0])
  have L1 := (show ([] ++ us0).length = 1 by rw [List.length_append, L0, n0])
  have A1 := W.cat_ok A0 O0 hs0
  have O1 := Oks.app O0 ho0
  have hr1 := W.stps_room (n := 3) hs0 ho0 (W.room_le hr0 (by decide))
  have R1 := get_set_self hR (b, Obj.cells cs1 E fr)
  repeat (first | refine RQ ?_ | ((first | refine WL_Q ?_); (first | refine QW_of (Qt_nilCheck_m rfl) ?_)) | refine RC ?_ | refine WC_region (id := 0) ?_)
  refine WC_draw_sub (id := 1) 8 (.calm 0 <| .calm 1 <| .calm 2 <| .calm 3 <| .calm 4 <| .calm 5 <| .calm 6 <| .must 7 <| .done) mixed (by kernel_rfl) (List.nil_sublist _) ?_
  repeat (first | refine RQr ?_ | ((first | refine WL_Q ?_ | refine WR_Q rfl ?_ | refine WR_late rfl rfl rfl (OW_Q ?_)); (first | refine QW_of (Qt_nilCheck_m rfl) ?_)) | refine RC ?_ | refine RU ?_ | refine WC_draw_all (id := 1) 8 (.calm 0 <| .calm 1 <| .calm 2 <| .calm 3 <| .calm 4 <| .calm 5 <| .calm 6 <| .must 7 <| .done) mixed (by kernel_rfl) ?_)
  have l1 : Lies cs1 (off + 1) [x1] := fun q v h => by
    rw [U1.rest _ (.inr (by rw [L1]; omega))]
    exact g1 q v h
  refine WR_op rfl rfl ?_
  refine (OW_flatI M.mw M.cw hM1 hT1 (W.room_le hr1 (by decide)) R1 hx1 (l1 0 _ rfl) (hfr.sub 1 1 (by decide)) rfl ⟨?_, ?_⟩)
  rotate_left
  · intro c a p s' Lp' cs' hs hM' hz
    exact ⟨_, rfl, c, a, p, s', Lp', cs', W.bad_cat [.ww, .ww] [x2, x3] (W.cat_bad A1 O1 hs) (Oks.app O1 ho1), rfl, by rw [List.set_set], hM', hz.trans U1.size⟩
  intro s2 us1 Lp2 cs2 hs1 hM2 hu1 hT2
  have n1 : us1.length = 1 := W.stps_len hs1 ho1
  have U2 := U1.app hu1 (by rw [L1])
  have L2 := (show (([] ++ us0) ++ us1).length = 2 by rw [List.length_append, L1, n1])
  have A2 := W.cat_ok A1 O1 hs1
  have O2 := Oks.app O1 ho1
  have hr2 := W.stps_room (n := 2) hs1 ho1 (W.room_le hr1 (by decide))
  rw [List.set_set] at hT2
  rw [List.set_set]
  have R2 := get_set_self hR (b, Obj.cells cs2 E fr)
  refine ⟨(fun q hq => (by cases hq)), ?_⟩
  repeat (first | refine RQr ?_ | ((first | refine WL_Q ?_ | refine WR_Q rfl ?_ | refine WR_late rfl rfl rfl (OW_Q ?_)); (first | refine QW_of (Qt_nilCheck_m rfl) ?_)) | refine RC ?_ | refine RU ?_ | refine WC_draw_all (id := 1) 8 (.calm 0 <| .calm 1 <| .calm 2 <| .calm 3 <| .calm 4 <| .calm 5 <| .calm 6 <| .must 7 <| .done) mixed (by kernel_rfl) ?_)
  refine WC_draw_sub (id := 2) 8 (.calm 0 <| .calm 1 <| .calm 2 <| .calm 3 <| .calm 4 <| .calm 5 <| .calm 6 <| .must 7 <| .done) mixed (by kernel_rfl) (List.nil_sublist _) ?_
  repeat (first | refine RQr ?_ | ((first | refine WL_Q ?_ | refine WR_Q rfl ?_ | refine WR_late rfl rfl rfl (OW_Q ?_)); (first | refine QW_of (Qt_nilCheck_m rfl) ?_)) | refine RC ?_ | refine RU ?_ | refine WC_draw_all (id := 2) 8 (.calm 0 <| .calm 1 <| .calm 2 <| .calm 3 <| .calm 4 <| .calm 5 <| .calm 6 <| .must 7 <| .done) mixed (by kernel_rfl) ?_)
  have l2 : Lies cs2 (off + 2) [x2] := fun q v h => by
    rw [U2.rest _ (.inr (by rw [L2]; omega))]
    exact g2 q v h
  refine WR_op rfl rfl ?_
  refine (OW_flatI M.mw M.cw hM2 hT2 (W.room_le hr2 (by decide)) R2 hx2 (l2 0 _ rfl) (hfr.sub 2 1 (by decide)) rfl ⟨?_, ?_⟩)
  rotate_left
  · intro c a p s' Lp' cs' hs hM' hz
    exact ⟨_, rfl, c, a, p, s', Lp', cs', W.bad_cat [.ww] [x3] (W.cat_bad A2 O2 hs) (Oks.app O2 ho2), rfl, by rw [List.set_set], hM', hz.trans U2.size⟩
  intro s3 us2 Lp3 cs3 hs2 hM3 hu2 hT3
  have n2 : us2.length = 1 := W.stps_len hs2 ho2
  have U3 := U2.app hu2 (by rw [L2])
  have L3 := (show ((([] ++ us0) ++ us1) ++ us2).length = 3 by rw [List.length_append, L2, n2])
  have A3 := W.cat_ok A2 O2 hs2
  have O3 := Oks.app O2 ho2
  have hr3 := W.stps_room (n := 1) hs2 ho2 (W.room_le hr2 (by decide))
  rw [List.set_set] at hT3
  rw [List.set_set]
  have R3 := get_set_self hR (b, Obj.cells cs3 E fr)
  refine ⟨(fun q hq => (by cases hq)), ?_⟩
  repeat (first | refine RQr ?_ | ((first | refine WL_Q ?_ | refine WR_Q rfl ?_ | refine WR_late rfl rfl rfl (OW_Q ?_)); (first | refine QW_of (Qt_nilCheck_m rfl) ?_)) | refine RC ?_ | refine RU ?_ | refine WC_draw_all (id := 2) 8 (.calm 0 <| .calm 1 <| .calm 2 <| .calm 3 <| .calm 4 <| .calm 5 <| .calm 6 <| .must 7 <| .done) mixed (by kernel_rfl) ?_)
  repeat (first | refine RQ ?_ | ((first | refine WL_Q ?_); (first | refine QW_of (Qt_nilCheck_m rfl) ?_)) | refine RC ?_ | refine WC_region (id := 3) ?_)
  have l3 : Lies cs3 (off + 3) [x3] := fun q v h => by
    rw [U3.rest _ (.inr (by rw [L3]; omega))]
    exact g3 q v h
  refine WL_op rfl ?_
  refine (OW_flatF (small_flat M) hM3 hT3 (W.room_le hr3 (by decide)) R3 ho3 l3 (hfr.sub 3 1 (by decide)) rfl ⟨?_, ?_⟩)
  rotate_left
  · intro c a p s' Lp' cs' hs hM' hz
    exact ⟨_, rfl, c, a, p, s', Lp', cs', W.bad_cat [] [] (W.cat_bad A3 O3 hs) (Oks.app O3 ho3), rfl, by rw [List.set_set], hM', hz.trans U3.size⟩
  intro s4 us3 Lp4 cs4 hs3 hM4 hu3 hT4
  have n3 : us3.length = 1 := W.stps_len hs3 ho3
  have U4 := U3.app hu3 (by rw [L3])
  have L4 := (show (((([] ++ us0) ++ us1) ++ us2) ++ us3).length = 4 by rw [List.length_append, L3, n3])
  have A4 := W.cat_ok A3 O3 hs3
  have O4 := Oks.app O3 ho3
  have hr4 := W.stps_room (n := 0) hs3 ho3 (W.room_le hr3 (by decide))
  rw [List.set_set] at hT4
  rw [List.set_set]
  have R4 := get_set_self hR (b, Obj.cells cs4 E fr)
  repeat (first | refine RQ ?_ | ((first | refine WL_Q ?_); (first | refine QW_of (Qt_nilCheck_m rfl) ?_)) | refine RC ?_ | refine WC_region (id := 3) ?_)
  exact ⟨.tuple #[], _, Res0 rfl, .refl _, rfl, s4, _, Lp4, cs4, A4, rfl, hM4, U4, hT4⟩
set_option maxHeartbeats 4000000 in
theorem acc_flat : Flat W 50 W.recv accF := by
  intro s Lp R i b cs E fr off vs hM0 hT0 hr0 hR hv hl hfr
  obtain ⟨x0, vs, rfl, hx0, hv⟩ := hv.split
  obtain ⟨x1, vs, rfl, hx1, hv⟩ := hv.split
  obtain ⟨x2, vs, rfl, hx2, hv⟩ := hv.split
  obtain ⟨x3, vs, rfl, hx3, hv⟩ := hv.split
  obtain ⟨x4, vs, rfl, hx4, hv⟩ := hv.split
  obtain rfl := hv.nil
  have ho0 : Oks [.ww] [x0] := ⟨hx0, trivial⟩
  have g0 : Lies cs (off + 0) [x0] := hl.cut 0 1
  have ho1 : Oks [.ww] [x1] := ⟨hx1, trivial⟩
  have g1 : Lies cs (off + 1) [x1] := hl.cut 1 1
  have ho2 : Oks [.nn] [x2] := ⟨hx2, trivial⟩
  have g2 : Lies cs (off + 2) [x2] := hl.cut 2 1
  have ho3 : Oks [.ww] [x3] := ⟨hx3, trivial⟩
  have g3 : Lies cs (off + 3) [x3] := hl.cut 3 1
  have ho4 : Oks [.ww] [x4] := ⟨hx4, trivial⟩
  have g4 : Lies cs (off + 4) [x4] := hl.cut 4 1
  have qw := M.mw
  have pw := M.iw
  have qn := M.mn
  have pn := M.jn
  refine FnE_enter Tryd.func50 rfl Tryd.ntmps50 rfl fun g => ?_
  unfold Wy.recv
  have U0 : Upd cs cs off [] := Upd.refl_of (fun j v h => by simp at h)
  have A0 : W.stps [] s [] = .ok s [] := rfl
  have O0 : Oks [] [] := trivial
  have L0 : ([] : List Value).length = 0 := rfl
  repeat (first | refine RQ ?_ | ((first | refine WL_Q ?_); (first | refine QW_of (Qt_nilCheck_m rfl) ?_)) | refine RC ?_)
  refine WC_draw_sub (id := 0) 8 (.calm 0 <| .calm 1 <| .calm 2 <| .calm 3 <| .calm 4 <| .calm 5 <| .calm 6 <| .must 7 <| .done) mixed (by kernel_rfl) (List.nil_sublist _) ?_
  repeat (first | refine RQr ?_ | ((first | refine WL_Q ?_ | refine WR_Q rfl ?_ | refine WR_late rfl rfl rfl (OW_Q ?_)); (first | refine QW_of (Qt_nilCheck_m rfl) ?_)) | refine RC ?_ | refine RU ?_ | refine WC_draw_all (id := 0) 8 (.calm 0 <| .calm 1 <| .calm 2 <| .calm 3 <| .calm 4 <| .calm 5 <| .calm 6 <| .must 7 <| .done) mixed (by kernel_rfl) ?_)
  have l0 : Lies cs (off + 0) [x0] := fun q v h => by
    rw [U0.rest _ (.inr (by rw [L0]; omega))]
    exact g0 q v h
  refine WR_op rfl rfl ?_
  refine (OW_flatI M.mw M.cw hM0 hT0 (W.room_le hr0 (by decide)) hR hx0 (l0 0 _ rfl) (hfr.sub 0 1 (by decide)) rfl ⟨?_, ?_⟩)
  rotate_left
  · intro c a p s' Lp' cs' hs hM' hz
    exact ⟨_, rfl, c, a, p, s', Lp', cs', W.bad_cat [.ww, .nn, .ww, .ww] [x1, x2, x3, x4] (W.cat_bad A0 O0 hs) (Oks.app O0 ho0), rfl, rfl, hM', hz.trans U0.size⟩
  intro s1 us0 Lp1 cs1 hs0 hM1 hu0 hT1
  have n0 : us0.length = 1 := W.stps_len hs0 ho0
  have U1 := U0.app hu0 (by rw [L0])
  have L1 := (show ([] ++ us0).length = 1 by rw [List.length_append, L0, n0])
  have A1 := W.cat_ok A0 O0 hs0
  have O1 := Oks.app O0 ho0
  have hr1 := W.stps_room (n := 4) hs0 ho0 (W.room_le hr0 (by decide))
  have R1 := get_set_self hR (b, Obj.cells cs1 E fr)
  refine ⟨(fun q hq => (by cases hq)), ?_⟩
  repeat (first | refine RQr ?_ | ((first | refine WL_Q ?_ | refine WR_Q rfl ?_ | refine WR_late rfl rfl rfl (OW_Q ?_)); (first | refine QW_of (Qt_nilCheck_m rfl) ?_)) | refine RC ?_ | refine RU ?_ | refine WC_draw_all (id := 0) 8 (.calm 0 <| .calm 1 <| .calm 2 <| .calm 3 <| .calm 4 <| .calm 5 <| .calm 6 <| .must 7 <| .done) mixed (by kernel_rfl) ?_)
  refine WC_draw_sub (id := 1) 8 (.calm 0 <| .calm 1 <| .calm 2 <| .calm 3 <| .calm 4 <| .calm 5 <| .calm 6 <| .must 7 <| .done) mixed (by kernel_rfl) (List.nil_sublist _) ?_
  repeat (first | refine RQr ?_ | ((first | refine WL_Q ?_ | refine WR_Q rfl ?_ | refine WR_late rfl rfl rfl (OW_Q ?_)); (first | refine QW_of (Qt_nilCheck_m rfl) ?_)) | refine RC ?_ | refine RU ?_ | refine WC_draw_all (id := 1) 8 (.calm 0 <| .calm 1 <| .calm 2 <| .calm 3 <| .calm 4 <| .calm 5 <| .calm 6 <| .must 7 <| .done) mixed (by kernel_rfl) ?_)
  have l1 : Lies cs1 (off + 1) [x1] := fun q v h => by
    rw [U1.rest _ (.inr (by rw [L1]; omega))]
    exact g1 q v h
  refine WR_op rfl rfl ?_
  refine (OW_flatI M.mw M.cw hM1 hT1 (W.room_le hr1 (by decide)) R1 hx1 (l1 0 _ rfl) (hfr.sub 1 1 (by decide)) rfl ⟨?_, ?_⟩)
  rotate_left
  · intro c a p s' Lp' cs' hs hM' hz
    exact ⟨_, rfl, c, a, p, s', Lp', cs', W.bad_cat [.nn, .ww, .ww] [x2, x3, x4] (W.cat_bad A1 O1 hs) (Oks.app O1 ho1), rfl, by rw [List.set_set], hM', hz.trans U1.size⟩
  intro s2 us1 Lp2 cs2 hs1 hM2 hu1 hT2
  have n1 : us1.length = 1 := W.stps_len hs1 ho1
  have U2 := U1.app hu1 (by rw [L1])
  have L2 := (show (([] ++ us0) ++ us1).length = 2 by rw [List.length_append, L1, n1])
  have A2 := W.cat_ok A1 O1 hs1
  have O2 := Oks.app O1 ho1
  have hr2 := W.stps_room (n := 3) hs1 ho1 (W.room_le hr1 (by decide))
  rw [List.set_set] at hT2
  rw [List.set_set]
  have R2 := get_set_self hR (b, Obj.cells cs2 E fr)
  refine ⟨(fun q hq => (by cases hq)), ?_⟩
  repeat (first | refine RQr ?_ | ((first | refine WL_Q ?_ | refine WR_Q rfl ?_ | refine WR_late rfl rfl rfl (OW_Q ?_)); (first | refine QW_of (Qt_nilCheck_m rfl) ?_)) | refine RC ?_ | refine RU ?_ | refine WC_draw_all (id := 1) 8 (.calm 0 <| .calm 1 <| .calm 2 <| .calm 3 <| .calm 4 <| .calm 5 <| .calm 6 <| .must 7 <| .done) mixed (by kernel_rfl) ?_)
  refine WC_draw_sub (id := 2) 8 (.calm 0 <| .calm 1 <| .calm 2 <| .calm 3 <| .calm 4 <| .calm 5 <| .calm 6 <| .must 7 <| .done) mixed (by kernel_rfl) (List.nil_sublist _) ?_
  repeat (first | refine RQr ?_ | ((first | refine WL_Q ?_ | refine WR_Q rfl ?_ | refine WR_late rfl rfl rfl (OW_Q ?_)); (first | refine QW_of (Qt_nilCheck_m rfl) ?_)) | refine RC ?_ | refine RU ?_ | refine WC_draw_all (id := 2) 8 (.calm 0 <| .calm 1 <| .calm 2 <| .calm 3 <| .calm 4 <| .calm 5 <| .calm 6 <| .must 7 <| .done) mixed (by kernel_rfl) ?_)
  have l2 : Lies cs2 (off + 2) [x2] := fun q v h => by
    rw [U2.rest _ (.inr (by rw [L2]; omega))]
    exact g2 q v h
  refine WR_op rfl rfl ?_
  refine (OW_flatI M.mn M.cn hM2 hT2 (W.room_le hr2 (by decide)) R2 hx2 (l2 0 _ rfl) (hfr.sub 2 1 (by decide)) rfl ⟨?_, ?_⟩)
  rotate_left
  · intro c a p s' Lp' cs' hs hM' hz
    exact ⟨_, rfl, c, a, p, s', Lp', cs', W.bad_cat [.ww, .ww] [x3, x4] (W.cat_bad A2 O2 hs) (Oks.app O2 ho2), rfl, by rw [List.set_set], hM', hz.trans U2.size⟩
  intro s3 us2 Lp3 cs3 hs2 hM3 hu2 hT3
  have n2 : us2.length = 1 := W.stps_len hs2 ho2
  have U3 := U2.app hu2 (by rw [L2])
  have L3 := (show ((([] ++ us0) ++ us1) ++ us2).length = 3 by rw [List.length_append, L2, n2])
  have A3 := W.cat_ok A2 O2 hs2
  have O3 := Oks.app O2 ho2
  have hr3 := W.stps_room (n := 2) hs2 ho2 (W.room_le hr2 (by decide))
  rw [List.set_set] at hT3
  rw [List.set_set]
  have R3 := get_set_self hR (b, Obj.cells cs3 E fr)
  refine ⟨(fun q hq => (by cases hq)), ?_⟩
  repeat (first | refine RQr ?_ | ((first | refine WL_Q ?_ | refine WR_Q rfl ?_ | refine WR_late rfl rfl rfl (OW_Q ?_)); (first | refine QW_of (Qt_nilCheck_m rfl) ?_)) | refine RC ?_ | refine RU ?_ | refine WC_draw_all (id := 2) 8 (.calm 0 <| .calm 1 <| .calm 2 <| .calm 3 <| .calm 4 <| .calm 5 <| .calm 6 <| .must 7 <| .done) mixed (by kernel_rfl) ?_)
  refine WC_draw_sub (id := 3) 8 (.calm 0 <| .calm 1 <| .calm 2 <| .calm 3 <| .calm 4 <| .calm 5 <| .calm 6 <| .must 7 <| .done) mixed (by kernel_rfl) (List.nil_sublist _) ?_
  repeat (first | refine RQr ?_ | ((first | refine WL_Q ?_ | refine WR_Q rfl ?_ | refine WR_late rfl rfl rfl (OW_Q ?_)); (first | refine QW_of (Qt_nilCheck_m rfl) ?_)) | refine RC ?_ | refine RU ?_ | refine WC_draw_all (id := 3) 8 (.calm 0 <| .calm 1 <| .calm 2 <| .calm 3 <| .calm 4 <| .calm 5 <| .calm 6 <| .must 7 <| .done) mixed (by kernel_rfl) ?_)
  have l3 : Lies cs3 (off + 3) [x3] := fun q v h => by
    rw [U3.rest _ (.inr (by rw [L3]; omega))]
    exact g3 q v h
  refine WR_op rfl rfl ?_
  refine (OW_flatI M.mw M.cw hM3 hT3 (W.room_le hr3 (by decide)) R3 hx3 (l3 0 _ rfl) (hfr.sub 3 1 (by decide)) rfl ⟨?_, ?_⟩)
  rotate_left
  · intro c a p s' Lp' cs' hs hM' hz
    exact ⟨_, rfl, c, a, p, s', Lp', cs', W.bad_cat [.ww] [x4] (W.cat_bad A3 O3 hs) (Oks.app O3 ho3), rfl, by rw [List.set_set], hM', hz.trans U3.size⟩
  intro s4 us3 Lp4 cs4 hs3 hM4 hu3 hT4
  have n3 : us3.length = 1 := W.stps_len hs3 ho3
  have U4 := U3.app hu3 (by rw [L3])
  have L4 := (show (((([] ++ us0) ++ us1) ++ us2) ++ us3).length = 4 by rw [List.length_append, L3, n3])
  have A4 := W.cat_ok A3 O3 hs3
  have O4 := Oks.app O3 ho3
  have hr4 := W.stps_room (n := 1) hs3 ho3 (W.room_le hr3 (by decide))
  rw [List.set_set] at hT4
  rw [List.set_set]
  have R4 := get_set_self hR (b, Obj.cells cs4 E fr)
  refine ⟨(fun q hq => (by cases hq)), ?_⟩
  repeat (first | refine RQr ?_ | ((first | refine WL_Q ?_ | refine WR_Q rfl ?_ | refine WR_late rfl rfl rfl (OW_Q ?_)); (first | refine QW_of (Qt_nilCheck_m rfl) ?_)) | refine RC ?_ | refine RU ?_ | refine WC_draw_all (id := 3) 8 (.calm 0 <| .calm 1 <| .calm 2 <| .calm 3 <| .calm 4 <| .calm 5 <| .calm 6 <| .must 7 <| .done) mixed (by kernel_rfl) ?_)
  refine WC_draw_sub (id := 4) 8 (.calm 0 <| .calm 1 <| .calm 2 <| .calm 3 <| .calm 4 <| .calm 5 <| .calm 6 <| .must 7 <| .done) mixed (by kernel_rfl) (List.nil_sublist _) ?_
  repeat (first | refine RQr ?_ | ((first | refine WL_Q ?_ | refine WR_Q rfl ?_ | refine WR_late rfl rfl rfl (OW_Q ?_)); (first | refine QW_of (Qt_nilCheck_m rfl) ?_)) | refine RC ?_ | refine RU ?_ | refine WC_draw_all (id := 4) 8 (.calm 0 <| .calm 1 <| .calm 2 <| .calm 3 <| .calm 4 <| .calm 5 <| .calm 6 <| .must 7 <| .done) mixed (by kernel_rfl) ?_)
  have l4 : Lies cs4 (off + 4) [x4] := fun q v h => by
    rw [U4.rest _ (.inr (by rw [L4]; omega))]
    exact g4 q v h
  refine WR_op rfl rfl ?_
  refine (OW_flatI M.mw M.cw hM4 hT4 (W.room_le hr4 (by decide)) R4 hx4 (l4 0 _ rfl) (hfr.sub 4 1 (by decide)) rfl ⟨?_, ?_⟩)
  rotate_left
  · intro c a p s' Lp' cs' hs hM' hz
    exact ⟨_, rfl, c, a, p, s', Lp', cs', W.bad_cat [] [] (W.cat_bad A4 O4 hs) (Oks.app O4 ho4), rfl, by rw [List.set_set], hM', hz.trans U4.size⟩
  intro s5 us4 Lp5 cs5 hs4 hM5 hu4 hT5
  have n4 : us4.length = 1 := W.stps_len hs4 ho4
  have U5 := U4.app hu4 (by rw [L4])
  have L5 := (show ((((([] ++ us0) ++ us1) ++ us2) ++ us3) ++ us4).length = 5 by rw [List.length_append, L4, n4])
  have A5 := W.cat_ok A4 O4 hs4
  have O5 := Oks.app O4 ho4
  have hr5 := W.stps_room (n := 0) hs4 ho4 (W.room_le hr4 (by decide))
  rw [List.set_set] at hT5
  rw [List.set_set]
  have R5 := get_set_self hR (b, Obj.cells cs5 E fr)
  refine ⟨(fun q hq => (by cases hq)), ?_⟩
  repeat (first | refine RQr ?_ | ((first | refine WL_Q ?_ | refine WR_Q rfl ?_ | refine WR_late rfl rfl rfl (OW_Q ?_)); (first | refine QW_of (Qt_nilCheck_m rfl) ?_)) | refine RC ?_ | refine RU ?_ | refine WC_draw_all (id := 4) 8 (.calm 0 <| .calm 1 <| .calm 2 <| .calm 3 <| .calm 4 <| .calm 5 <| .calm 6 <| .must 7 <| .done) mixed (by kernel_rfl) ?_)
  exact ⟨.tuple #[], _, Res0 rfl, .refl _, rfl, s5, _, Lp5, cs5, A5, rfl, hM5, U5, hT5⟩
set_option maxHeartbeats 4000000 in
theorem entry_flat : Flat W 65 W.recv entryF := by
  intro s Lp R i b cs E fr off vs hM0 hT0 hr0 hR hv hl hfr
  obtain ⟨x0, vs, rfl, hx0, hv⟩ := hv.split
  obtain ⟨x1, vs, rfl, hx1, hv⟩ := hv.split
  obtain ⟨x2, vs, rfl, hx2, hv⟩ := hv.split
  obtain ⟨x3, vs, rfl, hx3, hv⟩ := hv.split
  obtain ⟨x4, vs, rfl, hx4, hv⟩ := hv.split
  obtain ⟨x5, vs, rfl, hx5, hv⟩ := hv.split
  obtain ⟨x6, vs, rfl, hx6, hv⟩ := hv.split
  obtain ⟨x7, vs, rfl, hx7, hv⟩ := hv.split
  obtain ⟨x8, vs, rfl, hx8, hv⟩ := hv.split
  obtain ⟨x9, vs, rfl, hx9, hv⟩ := hv.split
  obtain rfl := hv.nil
  have ho0 : Oks [.ww] [x0] := ⟨hx0, trivial⟩
  have g0 : Lies cs (off + 0) [x0] := hl.cut 0 1
  have ho1 : Oks [.kk] [x1] := ⟨hx1, trivial⟩
  have g1 : Lies cs (off + 1) [x1] := hl.cut 1 1
  have ho2 : Oks [.ww] [x2] := ⟨hx2, trivial⟩
  have g2 : Lies cs (off + 2) [x2] := hl.cut 2 1
  have ho3 : Oks [.ww] [x3] := ⟨hx3, trivial⟩
  have g3 : Lies cs (off + 3) [x3] := hl.cut 3 1
  have ho4 : Oks [.bb] [x4] := ⟨hx4, trivial⟩
  have g4 : Lies cs (off + 4) [x4] := hl.cut 4 1
  have ho5 : Oks [.ww, .ww, .nn, .ww, .ww] [x5, x6, x7, x8, x9] := ⟨hx5, hx6, hx7, hx8, hx9, trivial⟩
  have g5 : Lies cs (off + 5) [x5, x6, x7, x8, x9] := hl.cut 5 5
  have qw := M.mw
  have pw := M.iw
  have qb := M.mo
  have pb := M.io
  refine FnE_enter Tryd.func65 rfl Tryd.ntmps65 rfl fun g => ?_
  unfold Wy.recv
  have U0 : Upd cs cs off [] := Upd.refl_of (fun j v h => by simp at h)
  have A0 : W.stps [] s [] = .ok s [] := rfl
  have O0 : Oks [] [] := trivial
  have L0 : ([] : List Value).length = 0 := rfl
  repeat (first | refine RQ ?_ | ((first | refine WL_Q ?_); (first | refine QW_of (Qt_nilCheck_m rfl) ?_)) | refine RC ?_ | refine WC_region (id := 0) ?_)
  have l0 : Lies cs (off + 0) [x0] := fun q v h => by
    rw [U0.rest _ (.inr (by rw [L0]; omega))]
    exact g0 q v h
  refine WL_op rfl ?_
  refine (OW_flatF (small_flat M) hM0 hT0 (W.room_le hr0 (by decide)) hR ho0 l0 (hfr.sub 0 1 (by decide)) rfl ⟨?_, ?_⟩)
  rotate_left
  · intro c a p s' Lp' cs' hs hM' hz
    exact ⟨_, rfl, c, a, p, s', Lp', cs', W.bad_cat [.kk, .ww, .ww, .bb, .ww, .ww, .nn, .ww, .ww] [x1, x2, x3, x4, x5, x6, x7, x8, x9] (W.cat_bad A0 O0 hs) (Oks.app O0 ho0), rfl, rfl, hM', hz.trans U0.size⟩
  intro s1 us0 Lp1 cs1 hs0 hM1 hu0 hT1
  have n0 : us0.length = 1 := W.stps_len hs0 ho0
  have U1 := U0.app hu0 (by rw [L0])
  have L1 := (show ([] ++ us0).length = 1 by rw [List.length_append, L0, n0])
  have A1 := W.cat_ok A0 O0 hs0
  have O1 := Oks.app O0 ho0
  have hr1 := W.stps_room (n := 9) hs0 ho0 (W.room_le hr0 (by decide))
  have R1 := get_set_self hR (b, Obj.cells cs1 E fr)
  repeat (first | refine RQ ?_ | ((first | refine WL_Q ?_); (first | refine QW_of (Qt_nilCheck_m rfl) ?_)) | refine RC ?_ | refine WC_region (id := 0) ?_)
  repeat (first | refine RQ ?_ | ((first | refine WL_Q ?_); (first | refine QW_of (Qt_nilCheck_m rfl) ?_)) | refine RC ?_ | refine WC_region (id := 1) ?_)
  have l1 : Lies cs1 (off + 1) [x1] := fun q v h => by
    rw [U1.rest _ (.inr (by rw [L1]; omega))]
    exact g1 q v h
  refine WL_op rfl ?_
  refine (OW_flatF (key_flat M) hM1 hT1 (W.room_le hr1 (by decide)) R1 ho1 l1 (hfr.sub 1 1 (by decide)) rfl ⟨?_, ?_⟩)
  rotate_left
  · intro c a p s' Lp' cs' hs hM' hz
    exact ⟨_, rfl, c, a, p, s', Lp', cs', W.bad_cat [.ww, .ww, .bb, .ww, .ww, .nn, .ww, .ww] [x2, x3, x4, x5, x6, x7, x8, x9] (W.cat_bad A1 O1 hs) (Oks.app O1 ho1), rfl, by rw [List.set_set], hM', hz.trans U1.size⟩
  intro s2 us1 Lp2 cs2 hs1 hM2 hu1 hT2
  have n1 : us1.length = 1 := W.stps_len hs1 ho1
  have U2 := U1.app hu1 (by rw [L1])
  have L2 := (show (([] ++ us0) ++ us1).length = 2 by rw [List.length_append, L1, n1])
  have A2 := W.cat_ok A1 O1 hs1
  have O2 := Oks.app O1 ho1
  have hr2 := W.stps_room (n := 8) hs1 ho1 (W.room_le hr1 (by decide))
  rw [List.set_set] at hT2
  rw [List.set_set]
  have R2 := get_set_self hR (b, Obj.cells cs2 E fr)
  repeat (first | refine RQ ?_ | ((first | refine WL_Q ?_); (first | refine QW_of (Qt_nilCheck_m rfl) ?_)) | refine RC ?_ | refine WC_region (id := 1) ?_)
  refine WC_draw_sub (id := 2) 8 (.calm 0 <| .calm 1 <| .calm 2 <| .calm 3 <| .calm 4 <| .calm 5 <| .calm 6 <| .must 7 <| .done) mixed (by kernel_rfl) (List.nil_sublist _) ?_
  repeat (first | refine RQr ?_ | ((first | refine WL_Q ?_ | refine WR_Q rfl ?_ | refine WR_late rfl rfl rfl (OW_Q ?_)); (first | refine QW_of (Qt_nilCheck_m rfl) ?_)) | refine RC ?_ | refine RU ?_ | refine WC_draw_all (id := 2) 8 (.calm 0 <| .calm 1 <| .calm 2 <| .calm 3 <| .calm 4 <| .calm 5 <| .calm 6 <| .must 7 <| .done) mixed (by kernel_rfl) ?_)
  have l2 : Lies cs2 (off + 2) [x2] := fun q v h => by
    rw [U2.rest _ (.inr (by rw [L2]; omega))]
    exact g2 q v h
  refine WR_op rfl rfl ?_
  refine (OW_flatI M.mw M.cw hM2 hT2 (W.room_le hr2 (by decide)) R2 hx2 (l2 0 _ rfl) (hfr.sub 2 1 (by decide)) rfl ⟨?_, ?_⟩)
  rotate_left
  · intro c a p s' Lp' cs' hs hM' hz
    exact ⟨_, rfl, c, a, p, s', Lp', cs', W.bad_cat [.ww, .bb, .ww, .ww, .nn, .ww, .ww] [x3, x4, x5, x6, x7, x8, x9] (W.cat_bad A2 O2 hs) (Oks.app O2 ho2), rfl, by rw [List.set_set], hM', hz.trans U2.size⟩
  intro s3 us2 Lp3 cs3 hs2 hM3 hu2 hT3
  have n2 : us2.length = 1 := W.stps_len hs2 ho2
  have U3 := U2.app hu2 (by rw [L2])
  have L3 := (show ((([] ++ us0) ++ us1) ++ us2).length = 3 by rw [List.length_append, L2, n2])
  have A3 := W.cat_ok A2 O2 hs2
  have O3 := Oks.app O2 ho2
  have hr3 := W.stps_room (n := 7) hs2 ho2 (W.room_le hr2 (by decide))
  rw [List.set_set] at hT3
  rw [List.set_set]
  have R3 := get_set_self hR (b, Obj.cells cs3 E fr)
  refine ⟨(fun q hq => (by cases hq)), ?_⟩
  repeat (first | refine RQr ?_ | ((first | refine WL_Q ?_ | refine WR_Q rfl ?_ | refine WR_late rfl rfl rfl (OW_Q ?_)); (first | refine QW_of (Qt_nilCheck_m rfl) ?_)) | refine RC ?_ | refine RU ?_ | refine WC_draw_all (id := 2) 8 (.calm 0 <| .calm 1 <| .calm 2 <| .calm 3 <| .calm 4 <| .calm 5 <| .calm 6 <| .must 7 <| .done) mixed (by kernel_rfl) ?_)
  refine WC_draw_sub (id := 3) 8 (.calm 0 <| .calm 1 <| .calm 2 <| .calm 3 <| .calm 4 <| .calm 5 <| .calm 6 <| .must 7 <| .done) mixed (by kernel_rfl) (List.nil_sublist _) ?_
  repeat (first | refine RQr ?_ | ((first | refine WL_Q ?_ | refine WR_Q rfl ?_ | refine WR_late rfl rfl rfl (OW_Q ?_)); (first | refine QW_of (Qt_nilCheck_m rfl) ?_)) | refine RC ?_ | refine RU ?_ | refine WC_draw_all (id := 3) 8 (.calm 0 <| .calm 1 <| .calm 2 <| .calm 3 <| .calm 4 <| .calm 5 <| .calm 6 <| .must 7 <| .done) mixed (by kernel_rfl) ?_)
  have l3 : Lies cs3 (off + 3) [x3] := fun q v h => by
    rw [U3.rest _ (.inr (by rw [L3]; omega))]
    exact g3 q v h
  refine WR_op rfl rfl ?_
  refine (OW_flatI M.mw M.cw hM3 hT3 (W.room_le hr3 (by decide)) R3 hx3 (l3 0 _ rfl) (hfr.sub 3 1 (by decide)) rfl ⟨?_, ?_⟩)
  rotate_left
  · intro c a p s' Lp' cs' hs hM' hz
    exact ⟨_, rfl, c, a, p, s', Lp', cs', W.bad_cat [.bb, .ww, .ww, .nn, .ww, .ww] [x4, x5, x6, x7, x8, x9] (W.cat_bad A3 O3 hs) (Oks.app O3 ho3), rfl, by rw [List.set_set], hM', hz.trans U3.size⟩
  intro s4 us3 Lp4 cs4 hs3 hM4 hu3 hT4
  have n3 : us3.length = 1 := W.stps_len hs3 ho3
  have U4 := U3.app hu3 (by rw [L3])
  have L4 := (show (((([] ++ us0) ++ us1) ++ us2) ++ us3).length = 4 by rw [List.length_append, L3, n3])
  have A4 := W.cat_ok A3 O3 hs3
  have O4 := Oks.app O3 ho3
  have hr4 := W.stps_room (n := 6) hs3 ho3 (W.room_le hr3 (by decide))
  rw [List.set_set] at hT4
  rw [List.set_set]
  have R4 := get_set_self hR (b, Obj.cells cs4 E fr)
  refine ⟨(fun q hq => (by cases hq)), ?_⟩
  repeat (first | refine RQr ?_ | ((first | refine WL_Q ?_ | refine WR_Q rfl ?_ | refine WR_late rfl rfl rfl (OW_Q ?_)); (first | refine QW_of (Qt_nilCheck_m rfl) ?_)) | refine RC ?_ | refine RU ?_ | refine WC_draw_all (id := 3) 8 (.calm 0 <| .calm 1 <| .calm 2 <| .calm 3 <| .calm 4 <| .calm 5 <| .calm 6 <| .must 7 <| .done) mixed (by kernel_rfl) ?_)
  refine WC_draw_sub (id := 4) 8 (.calm 0 <| .calm 1 <| .calm 2 <| .calm 3 <| .calm 4 <| .calm 5 <| .calm 6 <| .must 7 <| .done) mixed (by kernel_rfl) (List.nil_sublist _) ?_
  repeat (first | refine RQr ?_ | ((first | refine WL_Q ?_ | refine WR_Q rfl ?_ | refine WR_late rfl rfl rfl (OW_Q ?_)); (first | refine QW_of (Qt_nilCheck_m rfl) ?_)) | refine RC ?_ | refine RU ?_ | refine WC_draw_all (id := 4) 8 (.calm 0 <| .calm 1 <| .calm 2 <| .calm 3 <| .calm 4 <| .calm 5 <| .calm 6 <| .must 7 <| .done) mixed (by kernel_rfl) ?_)
  have l4 : Lies cs4 (off + 4) [x4] := fun q v h => by
    rw [U4.rest _ (.inr (by rw [L4]; omega))]
    exact g4 q v h
  refine WR_op rfl rfl ?_
  refine (OW_flatI M.mo M.co hM4 hT4 (W.room_le hr4 (by decide)) R4 hx4 (l4 0 _ rfl) (hfr.sub 4 1 (by decide)) rfl ⟨?_, ?_⟩)
  rotate_left
  · intro c a p s' Lp' cs' hs hM' hz
    exact ⟨_, rfl, c, a, p, s', Lp', cs', W.bad_cat [.ww, .ww, .nn, .ww, .ww] [x5, x6, x7, x8, x9] (W.cat_bad A4 O4 hs) (Oks.app O4 ho4), rfl, by rw [List.set_set], hM', hz.trans U4.size⟩
  intro s5 us4 Lp5 cs5 hs4 hM5 hu4 hT5
  have n4 : us4.length = 1 := W.stps_len hs4 ho4
  have U5 := U4.app hu4 (by rw [L4])
  have L5 := (show ((((([] ++ us0) ++ us1) ++ us2) ++ us3) ++ us4).length = 5 by rw [List.length_append, L4, n4])
  have A5 := W.cat_ok A4 O4 hs4
  have O5 := Oks.app O4 ho4
  have hr5 := W.stps_room (n := 5) hs4 ho4 (W.room_le hr4 (by decide))
  rw [List.set_set] at hT5
  rw [List.set_set]
  have R5 := get_set_self hR (b, Obj.cells cs5 E fr)
  refine ⟨(fun q hq => (by cases hq)), ?_⟩
  repeat (first | refine RQr ?_ | ((first | refine WL_Q ?_ | refine WR_Q rfl ?_ | refine WR_late rfl rfl rfl (OW_Q ?_)); (first | refine QW_of (Qt_nilCheck_m rfl) ?_)) | refine RC ?_ | refine RU ?_ | refine WC_draw_all (id := 4) 8 (.calm 0 <| .calm 1 <| .calm 2 <| .calm 3 <| .calm 4 <| .calm 5 <| .calm 6 <| .must 7 <| .done) mixed (by kernel_rfl) ?_)
  repeat (first | refine RQ ?_ | ((first | refine WL_Q ?_); (first | refine QW_of (Qt_nilCheck_m rfl) ?_)) | refine RC ?_ | refine WC_region (id := 5) ?_)
  have l5 : Lies cs5 (off + 5) [x5, x6, x7, x8, x9] := fun q v h => by
    rw [U5.rest _ (.inr (by rw [L5]; omega))]
    exact g5 q v h
  refine WL_op rfl ?_
  refine (OW_flatF (acc_flat M) hM5 hT5 (W.room_le hr5 (by decide)) R5 ho5 l5 (hfr.sub 5 5 (by decide)) rfl ⟨?_, ?_⟩)
  rotate_left
  · intro c a p s' Lp' cs' hs hM' hz
    exact ⟨_, rfl, c, a, p, s', Lp', cs', W.bad_cat [] [] (W.cat_bad A5 O5 hs) (Oks.app O5 ho5), rfl, by rw [List.set_set], hM', hz.trans U5.size⟩
  intro s6 us5 Lp6 cs6 hs5 hM6 hu5 hT6
  have n5 : us5.length = 5 := W.stps_len hs5 ho5
  have U6 := U5.app hu5 (by rw [L5])
  have L6 := (show (((((([] ++ us0) ++ us1) ++ us2) ++ us3) ++ us4) ++ us5).length = 10 by rw [List.length_append, L5, n5])
  have A6 := W.cat_ok A5 O5 hs5
  have O6 := Oks.app O5 ho5
  have hr6 := W.stps_room (n := 0) hs5 ho5 (W.room_le hr5 (by decide))
  rw [List.set_set] at hT6
  rw [List.set_set]
  have R6 := get_set_self hR (b, Obj.cells cs6 E fr)
  repeat (first | refine RQ ?_ | ((first | refine WL_Q ?_); (first | refine QW_of (Qt_nilCheck_m rfl) ?_)) | refine RC ?_ | refine WC_region (id := 5) ?_)
  exact ⟨.tuple #[], _, Res0 rfl, .refl _, rfl, s6, _, Lp6, cs6, A6, rfl, hM6, U6, hT6⟩
end
end Go.Proofs.YtakedlockchpcaaDoor
