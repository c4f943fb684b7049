/-
  errors.As and errors.Is, for the executor: by their contracts. It proves no statement by itself.
-/
import Derived.Test.YtcnbecdpfildnaaDoorEx9
import Derived.Test.YtcnbecdpfildnaaDoorTy
import Derived.Test.YtcnbecdpfildnaaDoorIs
namespace Go.Proofs.YtcnbecdpfildnaaDoor
open Go.RowKit
noncomputable section
attribute [local irreducible] T.put T.set

/-- The value of errors.errorType. -/
def handle : Value := .iface 110 (.agg #[.pointer (some ⟨1, 43, none⟩)])
def hOk (Hp : H) : Bool := match Hp.h.get 0 with
  | some (.glob b0 v) => match v with
    | .iface r (.agg a) => match a.toList with
      | [.pointer (some ⟨B, o, none⟩)] => Nat.beq b0 0 && Nat.beq r 110 && Nat.beq B 1 && Nat.beq o 43
      | _ => false
    | _ => false
  | _ => false
theorem hOk_ok {Hp : H} (h : hOk Hp = true) : Hp.h.get 0 = some (.glob 0 handle) := by
  unfold hOk at h
  split at h
  · rename_i b0 v hg
    split at h
    · rename_i r a
      split at h
      · rename_i B o ha
        simp only [Bool.and_eq_true] at h
        obtain ⟨⟨⟨h1, h2⟩, h3⟩, h4⟩ := h
        rw [hg, Nat.eq_of_beq_eq_true h1, Nat.eq_of_beq_eq_true h2]
        have : a = #[.pointer (some ⟨B, o, none⟩)] := by apply Array.ext'; simpa using ha
        rw [this, Nat.eq_of_beq_eq_true h3, Nat.eq_of_beq_eq_true h4]
        rfl
      · cases h
    · cases h
  · cases h
def asX (vs : List V) (Hp : H) : Option (V × H) := match vs with
  | [.ifc t (.ptr k off), .ifc t2 (.ptr k2 off2)] => match Nat.beq t 88, Nat.beq t2 90, hOk Hp, Hp.h.get k2 with
    | true, true, true, some (.cells c E) => match c.get off2 with
      | some _ => some (.bool true, Hp.upd k2 (.cells (c.set off2 (.ptr k off)) E))
      | none => none
    | _, _, _, _ => none
  | _ => none
def isX (vs : List V) (Hp : H) : Option (V × H) := match vs with
  | [.ifc t (.ptr k off), .ifc t2 (.int .i64 m)] => match Nat.beq t 88, Nat.beq t2 46, rdX (Hp.h.get k) with
    | true, true, some c => match c.get off with
      | some (.int .i64 n) => some (.bool (n == m), Hp)
      | _ => none
    | _, _, _ => none
  | _ => none
def doorPr : PrimF := fun f vs Hp => match Nat.beq f 38 with
  | true => asX vs Hp
  | false => match Nat.beq f 39 with
    | true => isX vs Hp
    | false => none

theorem FPost_self {bs : Bs} {Hp : H} {M F : List (Nat × Obj)} {v : V} {v' : Value} (hm : HCov bs Hp M) (hv : RV bs v v') : FPost bs Hp M F v Hp v' (M ++ F) :=
  ⟨[], M, rfl, by simpa using hv, by simpa using hm, rfl, fun _ h => h, fun W B _ h => by simpa using h⟩

theorem setCell_row {W : World} {b off : Nat} {v : Value} {cs : Array Value} {E : TypeId} {fr : Nat × Nat} (h : W.heap[b]? = some (.cells cs E fr)) : W.setCell ⟨b, off, none⟩ v = W.setRow b (cs.setIfInBounds off v) := by
  unfold World.setCell World.setRow
  congr 1
  apply Array.ext_getElem?
  intro i
  rw [Array.getElem?_modify, Array.getElem?_modify]
  by_cases e : b = i
  · subst e; rw [if_pos rfl, if_pos rfl, h]; simp
  · rw [if_neg e, if_neg e]
theorem as_ok {Hp : H} {vs : List V} {v : V} {H2 : H} (h : asX vs Hp = some (v, H2)) : Ext Hp H2 ∧ ∀ bs M F vs', HCov bs Hp M → RVs bs vs vs' → Fn Tryd.prog 38 vs' (M ++ F) (FPost bs Hp M F v H2) := by
  unfold asX at h
  split at h
  · rename_i t k off t2 k2 off2
    split at h
    · rename_i c E g1 g2 g3 g4
      split at h
      · rename_i old g5
        cases h
        refine ⟨.upd _ _ _, fun bs M F vs' hm hvs g w hmem => ?_⟩
        obtain rfl := Nat.eq_of_beq_eq_true g1
        obtain rfl := Nat.eq_of_beq_eq_true g2
        cases hvs with
        | cons h1 hvs => cases hvs with
          | cons h2 hvs => cases hvs with
            | nil =>
              cases h1 with
              | ifc _ h1 => cases h2 with
                | ifc _ h2 =>
                  obtain ⟨b, base, av, rfl, hk⟩ := h1.ptr_inv
                  obtain ⟨b2, base2, av2, rfl, hk2⟩ := h2.ptr_inv
                  obtain ⟨b', base', av', i, o', a1, a2, a3⟩ := hm.at_ k2 _ g4
                  rw [hk2] at a1; cases a1
                  have a4 := a3
                  obtain ⟨cs, rfl, a5, a6⟩ := a4
                  obtain ⟨a7, old', a8, _⟩ := a6 off2 _ g5
                  obtain ⟨b0, base0, av0, i0, o0, c1, c2, rfl, cs0, E0, fr0, rfl, c3⟩ := hm.at_ 0 _ (hOk_ok g3)
                  have hi2 : (M ++ F)[i]? = some (b2, .cells cs E (0, 0)) := by rw [List.getElem?_append_left (List.getElem?_eq_some_iff.1 a2).1]; exact a2
                  have hi0 : (M ++ F)[i0]? = some (0, .cells cs0 E0 fr0) := by rw [List.getElem?_append_left (List.getElem?_eq_some_iff.1 c2).1]; exact c2
                  have hw2 := hmem.at_ hi2
                  have hw0 := hmem.at_ hi0
                  have hg : w.cell? ⟨0, 0, none⟩ = some handle := by rw [cell_of_row w _ 0 cs0 E0 fr0 hw0]; exact c3
                  have ht : w.cell? ⟨b2, base2 + off2, none⟩ = some old' := by rw [cell_of_row w b2 (base2 + off2) cs E (0, 0) hw2]; exact a8
                  have hf : w.frozen? ⟨b2, base2 + off2, none⟩ = false := by
                    simp [World.frozen?, hw2]
                  have hlt : b2 < w.heap.size := hmem.lt _ (List.mem_of_getElem? hi2)
                  refine (as_hit ⟨b, base + off, none⟩ ⟨b2, base2 + off2, none⟩ old' w hg ht hf).mono fun e w' ⟨he, hw'⟩ => ?_
                  have hm4 := (((hmem.alloc (.cells #[.pointer (some ⟨b2, base2 + off2, none⟩)] 90)).alloc (.cells #[.pointer (some ⟨1, 90, none⟩), .pointer (some ⟨w.heap.size, 0, none⟩), .int .u64 150] 98)).alloc (.cells #[.pointer (some ⟨1, 90, none⟩), .pointer (some ⟨w.heap.size, 0, none⟩), .int .u64 150] 98)).alloc (.cells #[.pointer (some ⟨b, base + off, none⟩)] 88)
                  have hm5 : Mem g (M ++ F) _ := hm4.sublist ((((List.sublist_cons_self _ _).trans (List.sublist_cons_self _ _)).trans (List.sublist_cons_self _ _)).trans (List.sublist_cons_self _ _))
                  have hset := hm5.setRow hi2 (cs.setIfInBounds (base2 + off2) (.pointer (some ⟨b, base + off, none⟩)))
                  have hL : (M ++ F).set i (b2, .cells (cs.setIfInBounds (base2 + off2) (.pointer (some ⟨b, base + off, none⟩))) E (0, 0)) = M.set i (b2, .cells (cs.setIfInBounds (base2 + off2) (.pointer (some ⟨b, base + off, none⟩))) E (0, 0)) ++ F := List.set_append_left _ _ (List.getElem?_eq_some_iff.1 a2).1
                  have hRO : RO bs b2 base2 av2 (.cells (c.set off2 (.ptr k off)) E) (.cells (cs.setIfInBounds (base2 + off2) (.pointer (some ⟨b, base + off, none⟩))) E (0, 0)) := by
                    refine ⟨_, rfl, by rw [Array.size_setIfInBounds]; exact a5, fun j u hj => ?_⟩
                    rcases T.get_set hj with ⟨rfl, rfl⟩ | ⟨hne, hj⟩
                    · refine ⟨a7, .pointer (some ⟨b, base + off, none⟩), ?_, .ptr hk⟩
                      have : base2 + j < cs.size := by omega
                      simp [this]
                    · obtain ⟨q1, q2, q3, q4⟩ := a6 j u hj
                      refine ⟨q1, q2, ?_, q4⟩
                      rw [Array.getElem?_setIfInBounds_ne (by omega)]; exact q3
                  have hnod : ((M ++ F).map Prod.fst).Nodup := hmem.nodup
                  have hpost := Post_upd (bs := bs) (s := noS) (Hp := ⟨Hp.h, Hp.n, Hp.log, []⟩) (M := M) (F := F) (σ := ⟨[], [], M ++ F⟩) (s2 := noS) (k := k2) (ob := .cells c E) (σ' := ⟨[], [], (M ++ F).set i (b2, .cells (cs.setIfInBounds (base2 + off2) (.pointer (some ⟨b, base + off, none⟩))) E (0, 0))⟩) ⟨covS_none, rfl, ⟨hm.n, hm.at_, hm.inj⟩, rfl⟩ hnod g4 hk2 a2 hRO covS_none rfl rfl
                  obtain ⟨r, M', f1, f2, f3, f4, f5, f6⟩ := hpost
                  refine ⟨.bool true, _, he, ?_, r, M', f2, .bool true, ⟨f4.n, f4.at_, f4.inj⟩, rfl, f5, f6⟩
                  rw [hw']
                  rw [setCell_row (hm5.at_ hi2)]
                  exact hset
      · cases h
    · cases h
  · cases h
theorem is_ok {Hp : H} {vs : List V} {v : V} {H2 : H} (h : isX vs Hp = some (v, H2)) : Ext Hp H2 ∧ ∀ bs M F vs', HCov bs Hp M → RVs bs vs vs' → Fn Tryd.prog 39 vs' (M ++ F) (FPost bs Hp M F v H2) := by
  unfold isX at h
  split at h
  · rename_i t k off t2 m
    split at h
    · rename_i c g1 g2 g3
      split at h
      · rename_i n g5
        cases h
        refine ⟨.refl _, fun bs M F vs' hm hvs g w hmem => ?_⟩
        obtain rfl := Nat.eq_of_beq_eq_true g1
        obtain rfl := Nat.eq_of_beq_eq_true g2
        cases hvs with
        | cons h1 hvs => cases hvs with
          | cons h2 hvs => cases hvs with
            | nil =>
              cases h1 with
              | ifc _ h1 => cases h2 with
                | ifc _ h2 =>
                  cases h2
                  obtain ⟨b, base, av, rfl, hk⟩ := h1.ptr_inv
                  obtain ⟨ob, hob, hrd⟩ := rdX_ok (bs := bs) (b := b) (base := base) (av := av) g3
                  obtain ⟨b', base', av', i, o', a1, a2, a3⟩ := hm.at_ k _ hob
                  rw [hk] at a1; cases a1
                  obtain ⟨cs, E, fr, rfl, a5, a6⟩ := hrd a3
                  obtain ⟨a7, n', a8, a9⟩ := a6 off _ g5
                  cases a9
                  have hi2 : (M ++ F)[i]? = some (b, .cells cs E fr) := by rw [List.getElem?_append_left (List.getElem?_eq_some_iff.1 a2).1]; exact a2
                  have ht : w.cell? ⟨b, base + off, none⟩ = some (.int .i64 n) := by rw [cell_of_row w b (base + off) cs E fr (hmem.at_ hi2)]; exact a8
                  refine (Is_hit b (base + off) n m w ht).mono fun e w' ⟨he, hw'⟩ => ?_
                  subst hw'
                  exact ⟨_, _, he, hmem, FPost_self hm (.bool _)⟩
      · cases h
    · cases h
  · cases h
theorem doorPr_ok : PrimOk Tryd.prog doorPr := by
  refine ⟨fun f vs Hp v H2 h => ?_, fun f vs Hp v H2 h => ?_, fun f vs Hp v H2 h bs M F vs' hm hvs => ?_⟩
  · unfold doorPr at h
    split at h
    · exact (as_ok h).1
    · split at h
      · exact (is_ok h).1
      · cases h
  · unfold doorPr at h
    split at h
    · rename_i e; rw [Nat.eq_of_beq_eq_true e]; infer_instance
    · split at h
      · rename_i e; rw [Nat.eq_of_beq_eq_true e]; infer_instance
      · cases h
  · unfold doorPr at h
    split at h
    · rename_i e; rw [Nat.eq_of_beq_eq_true e]; exact (as_ok h).2 bs M F vs' hm hvs
    · split at h
      · rename_i e; rw [Nat.eq_of_beq_eq_true e]; exact (is_ok h).2 bs M F vs' hm hvs
      · cases h
/-- Memory, as the executor has it where a law begins. -/
def doorH : H := ⟨(T.e).set 0 (.glob 0 handle), 1, [], []⟩
theorem doorH_cov {cs : Array Value} {E : TypeId} {fr : Nat × Nat} (h : cs[0]? = some handle) : HCov [(0, 0, 0)] doorH [(0, .cells cs E fr)] := by
  have key : ∀ {k : Nat} {o : O}, doorH.h.get k = some o → k = 0 ∧ o = .glob 0 handle := fun {k o} hk => by
    rcases T.get_set hk with ⟨h1, h2⟩ | ⟨_, h2⟩
    · exact ⟨h1, h2.symm⟩
    · cases h2
  refine ⟨rfl, fun k o hk => ?_, fun j k o o' b x y x' y' hj hk _ _ => ?_⟩
  · obtain ⟨rfl, rfl⟩ := key hk
    exact ⟨_, 0, 0, 0, _, rfl, rfl, rfl, cs, E, fr, rfl, h⟩
  · rw [(key hj).1, (key hk).1]
theorem doorH_zero : ∀ k o, doorH.h.get k = some o → k = 0 := fun k o hk => by
  rcases T.get_set hk with ⟨h1, _⟩ | ⟨_, h2⟩
  · exact h1
  · cases h2
end
end Go.Proofs.YtcnbecdpfildnaaDoor
