/-
  A part of what the last of these texts needs; by itself it proves no statement.
-/
import Derived.Test.YtekmmhmhcpaiaaaGreatKP22
namespace Go.Proofs.YtekmmhmhcpaiaaaGreat
open Go.RowKit
theorem sameX_stE {P : Program} {kt : TypeId} {fs : Array Field} {x y : List V} : sameX P kt (.struct fs) (.agg x) (.agg y) = sameX.sameG P kt (.agg x) (.agg y) := rfl
theorem gr_eq (a b c d : Int) : eqX Tryz.prog 8 119 (.agg [.int .i64 a, .int .u32 b]) (.agg [.int .i64 c, .int .u32 d]) = (match a == c with | true => (match b == d with | true => some true | false => some false) | false => some false) := by kernel_rfl
theorem gr_key (a b : Int) : keyK Tryz.prog 8 119 (.agg [.int .i64 a, .int .u32 b]) = true := by kernel_rfl
theorem gr_bits (a b : Int) : Instr.sameBits 10000 (.agg #[.int .i64 a, .int .u32 b]) (.agg #[.int .i64 a, .int .u32 b]) = true := by simp [Instr.sameBits]
instance : KeyT Tryz.prog 119 grpK := KeyT.of (kv := fun p => .agg [.int .i64 p.1, .int .u32 p.2]) Tryz.underlying119 (fun p => .agg (.cons (.int _ _) (.cons (.int _ _) .nil))) (fun p => by rw [keyX]; exact gr_key _ _) (fun p => by
  rw [sameX_stE]
  unfold sameX.sameG
  rw [gr_eq]
  rw [beq_self_eq_true, beq_self_eq_true]
  have hv : V.val (.agg [.int .i64 p.1, .int .u32 p.2]) = some (.agg #[.int .i64 p.1, .int .u32 p.2]) := by simp [V.val, V.valL]
  dsimp only
  rw [hv]
  dsimp only
  rw [gr_bits]) (fun p q h => by
  rw [sameX_stE]
  unfold sameX.sameG
  rw [gr_eq]
  by_cases h1 : p.1 = q.1
  · have h2 : (p.2 == q.2) = false := by simpa using fun e => h (Prod.ext h1 e)
    rw [h1, beq_self_eq_true, h2]
  · have h2 : (p.1 == q.1) = false := by simpa using h1
    rw [h2])
theorem grpK_inj : ∀ x y : Int × Int, grpK x = grpK y → x = y := by
  intro x y h
  simp only [grpK, Value.agg.injEq, Array.mk.injEq, List.cons.injEq, Value.int.injEq, true_and, and_true] at h
  exact Prod.ext h.1 h.2
def ofG (l : List EnV) (g : Int × Int) : List EnV := l.filter fun x => decide (x.grp = g)
structure RowsE (G : List (Nat × Obj)) (ps : List ((Int × Int) × Value)) (l : List EnV) : Prop where
  row : ∀ g v, vGet ps g = some v → ∃ row, row ≠ [] ∧ VecM 10 G v row.length (enL row) ∧ row.Perm (ofG l g)
  all : ∀ x ∈ l, vGet ps x.grp ≠ none
theorem RowsE.mem {G G' : List (Nat × Obj)} {ps : List ((Int × Int) × Value)} {l : List EnV} (h : RowsE G ps l) (hs : ∀ q ∈ G, q ∈ G') : RowsE G' ps l :=
  ⟨fun g v hv => by
    obtain ⟨row, h1, h2, h3⟩ := h.row g v hv
    exact ⟨row, h1, h2.mem hs, h3⟩, h.all⟩
theorem RowsE.perm {G : List (Nat × Obj)} {ps : List ((Int × Int) × Value)} {l k : List EnV} (h : RowsE G ps l) (p : l.Perm k) : RowsE G ps k :=
  ⟨fun g v hv => by
    obtain ⟨row, h1, h2, h3⟩ := h.row g v hv
    exact ⟨row, h1, h2, h3.trans (p.filter _)⟩, fun x hx => h.all x (p.mem_iff.2 hx)⟩
theorem RowsE.get {G : List (Nat × Obj)} {ps : List ((Int × Int) × Value)} {l : List EnV} (h : RowsE G ps l) (g : Int × Int) : ∃ v row, (vGet ps g).getD (.slice none 0 0) = v ∧ VecM 10 G v row.length (enL row) ∧ row.Perm (ofG l g) := by
  cases hv : vGet ps g with
  | some v =>
    obtain ⟨row, _, h2, h3⟩ := h.row g v hv
    exact ⟨v, row, rfl, h2, h3⟩
  | none =>
    refine ⟨_, [], rfl, VecM.nil _ _, ?_⟩
    have : ofG l g = [] := List.filter_eq_nil_iff.2 fun x hx => by
      have := h.all x hx
      simp only [decide_eq_true_eq]
      rintro rfl
      exact this hv
    rw [this]
theorem ofG_cons_eq {e : EnV} {l : List EnV} {g : Int × Int} (h : e.grp = g) : ofG (e :: l) g = e :: ofG l g := List.filter_cons_of_pos (by simpa using h)
theorem ofG_cons_ne {e : EnV} {l : List EnV} {g : Int × Int} (h : e.grp ≠ g) : ofG (e :: l) g = ofG l g := List.filter_cons_of_neg (by simpa using h)
theorem ofG_len (l : List EnV) (g : Int × Int) : (ofG l g).length ≤ l.length := List.length_filter_le _ _
theorem RowsE.put {G : List (Nat × Obj)} {ps : List ((Int × Int) × Value)} {l : List EnV} (h : RowsE G ps l) {e : EnV} {v : Value} {row : List EnV} (hv : VecM 10 G v row.length (enL row)) (hp : row.Perm (e :: ofG l e.grp)) : RowsE G (vPut ps e.grp v) (e :: l) := by
  refine ⟨fun g u hu => ?_, fun x hx => ?_⟩
  · rw [vGet_put] at hu
    by_cases hg : g = e.grp
    · subst hg
      rw [if_pos rfl] at hu
      cases hu
      refine ⟨row, fun hr => ?_, hv, by rw [ofG_cons_eq rfl]; exact hp⟩
      rw [hr] at hp
      exact absurd hp.length_eq (by simp)
    · rw [if_neg hg] at hu
      obtain ⟨r, h1, h2, h3⟩ := h.row g u hu
      exact ⟨r, h1, h2, by rw [ofG_cons_ne fun h => hg h.symm]; exact h3⟩
  · rw [vGet_put]
    split
    · exact fun h => by cases h
    · rename_i hne
      rcases List.mem_cons.1 hx with rfl | hx
      · exact absurd rfl hne
      · exact h.all x hx
theorem RowsE.cut {G : List (Nat × Obj)} {ps : List ((Int × Int) × Value)} {e : EnV} {l : List EnV} (h : RowsE G ps (e :: l)) {v : Value} {row : List EnV} (hr : row ≠ []) (hv : VecM 10 G v row.length (enL row)) (hp : row.Perm (ofG l e.grp)) : RowsE G (vPut ps e.grp v) l := by
  refine ⟨fun g u hu => ?_, fun x hx => ?_⟩
  · rw [vGet_put] at hu
    by_cases hg : g = e.grp
    · subst hg
      rw [if_pos rfl] at hu
      cases hu
      exact ⟨row, hr, hv, hp⟩
    · rw [if_neg hg] at hu
      obtain ⟨r, h1, h2, h3⟩ := h.row g u hu
      exact ⟨r, h1, h2, by rw [ofG_cons_ne fun h => hg h.symm] at h3; exact h3⟩
  · rw [vGet_put]
    split
    · exact fun h => by cases h
    · exact h.all x (.tail _ hx)
theorem RowsE.del {G : List (Nat × Obj)} {ps : List ((Int × Int) × Value)} {e : EnV} {l : List EnV} (h : RowsE G ps (e :: l)) (hp : ofG l e.grp = []) : RowsE G (vDel ps e.grp) l := by
  refine ⟨fun g u hu => ?_, fun x hx => ?_⟩
  · rw [vGet_del] at hu
    by_cases hg : g = e.grp
    · rw [if_pos hg] at hu
      cases hu
    · rw [if_neg hg] at hu
      obtain ⟨r, h1, h2, h3⟩ := h.row g u hu
      exact ⟨r, h1, h2, by rw [ofG_cons_ne fun h => hg h.symm] at h3; exact h3⟩
  · rw [vGet_del]
    split
    · rename_i hg
      have : x ∈ ofG l e.grp := List.mem_filter.2 ⟨hx, by simpa using hg⟩
      rw [hp] at this
      cases this
    · exact h.all x (.tail _ hx)
abbrev PtC (tb mb : Nat) (nd cl n : Int) : Array Value := #[.pointer (some ⟨tb, 0, none⟩), iV nd, iV cl, .map (some mb), iV n]
structure PtAt (pb mb tb : Nat) (nd cl : Int) (S G : List (Nat × Obj)) (l : List EnV) : Prop where
  h : ∃ es ck ps, S = [(pb, Obj.cells (PtC tb mb nd cl l.length) 89 (0, 0)), (mb, Obj.map es ck)] ∧ MapV grpK es ck ps ∧ RowsE G ps l
theorem PtAt.mem {pb mb tb : Nat} {nd cl : Int} {S G G' : List (Nat × Obj)} {l : List EnV} (h : PtAt pb mb tb nd cl S G l) (hs : ∀ q ∈ G, q ∈ G') : PtAt pb mb tb nd cl S G' l := by
  obtain ⟨es, ck, ps, h1, h2, h3⟩ := h.h
  exact ⟨es, ck, ps, h1, h2, h3.mem hs⟩
theorem PtAt.perm {pb mb tb : Nat} {nd cl : Int} {S G : List (Nat × Obj)} {l k : List EnV} (h : PtAt pb mb tb nd cl S G l) (p : l.Perm k) : PtAt pb mb tb nd cl S G k := by
  obtain ⟨es, ck, ps, h1, h2, h3⟩ := h.h
  exact ⟨es, ck, ps, by rw [← p.length_eq]; exact h1, h2, h3.perm p⟩
attribute [local irreducible] Fn WC WL WR OW Qt YieldFn QW FnP FnD FnE
set_option maxHeartbeats 4000000 in
theorem more_fn {pb mb tb : Nat} {nd cl : Int} {S G F : List (Nat × Obj)} {l : List EnV} {e : EnV} (h : PtAt pb mb tb nd cl S G l) (hG : ∀ q ∈ G, q ∈ F) (hn : l.length < 100000) : Fn Tryz.prog 58 [.pointer (some ⟨pb, 0, none⟩), .agg (enC e).toArray] (S ++ F) (fun v L' => v = .tuple #[] ∧ ∃ S' T, L' = S' ++ (T ++ F) ∧ PtAt pb mb tb nd cl S' (T ++ G) (e :: l)) := by
  obtain ⟨es, ck, ps, rfl, hm, hr⟩ := h.h
  obtain ⟨v0, row, hv0, hvr, hpr⟩ := hr.get e.grp
  have hrl : row.length ≤ l.length := by rw [hpr.length_eq]; exact ofG_len _ _
  refine Fn_enter Tryz.func58 rfl Tryz.ntmps58 rfl fun gw => ?_
  have hone := enC_one e
  have hsz : (enC e).toArray.size = 10 := rfl
  have hme := hm.ents
  repeat (first | refine RQ ?_ | (refine WL_Q ?_; (first | refine QW_of (Qt_lookVE rfl) ?_)) | (refine RE ?_; try intro _) | refine RC ?_ | refine WG 0 ?_)
  rename_i x3
  refine WC_permT (L' := (x3, Obj.cells (enC e).toArray 53 (0, 0)) :: (pb, Obj.cells (PtC tb mb nd cl l.length) 89 (0, 0)) :: (mb, Obj.map es ck) :: F) (.refl _) ?_
  have hv1 : Vec 10 ((x3, Obj.cells (enC e).toArray 53 (0, 0)) :: (pb, Obj.cells (PtC tb mb nd cl l.length) 89 (0, 0)) :: (mb, Obj.map es ck) :: F) v0 row.length (enL row) := ((((hvr.mem hG).vec fun _ h => h).cons _).cons _).cons _
  have hones : ∀ u ∈ enC e, u.oneCell' = true := fun u hu => enL_one (l := [e]) u (by simpa [enL] using hu)
  have hlr : row.length + 1 = (row ++ [e]).length := by simp
  have hcat : ∀ {cur : Array Value} {off cap : Nat}, Own 10 cur off cap (row.length + 1) (enL row ++ enC e) → OwnE cur off cap (row ++ [e]) := fun h => by
    unfold OwnE
    rw [← hlr, enL_append, show enL [e] = enC e from List.append_nil _]
    exact h
  have hmi : ((x3, Obj.cells (enC e).toArray 53 (0, 0)) :: (pb, Obj.cells (PtC tb mb nd cl l.length) 89 (0, 0)) :: (mb, Obj.map es ck) :: F)[2]? = some (mb, Obj.map es ck) := rfl
  refine WC_meet (fun σ => ∃ (g0 off cap : Nat) (cur : Array Value), OwnE cur off cap (row ++ [e]) ∧ σ = ⟨[(4, .slice (some ⟨g0, off, none⟩) (row ++ [e]).length cap), (3, .pointer (some ⟨x3, 0, none⟩)), (0, .pointer (some ⟨pb, 0, none⟩))], [], (g0, Obj.cells cur 53 (0, 0)) :: (x3, Obj.cells (enC e).toArray 53 (0, 0)) :: (pb, Obj.cells (PtC tb mb nd cl l.length) 89 (0, 0)) :: (mb, Obj.map es ck) :: F⟩) ?_ ?_
  · refine WC_draw_sub (id := 1) 12 (Cs [0,1,2,3,4,8] <| .either 5 (.calm 6 <| .either 7 (.must 9 <| .must 10 <| .calm 11 <| .done) 9 (.must 7 <| .must 10 <| .calm 11 <| .done)) 9 (.must 5 <| .calm 6 <| .must 7 <| .must 10 <| .calm 11 <| .done)) mixed (by kernel_rfl) (List.Sublist.refl _) ?_
    repeat (first | refine RQr ?_ | (refine RX ?_; (first | refine QW_of (Qt_lookVE rfl) ?_)) | ((first | refine WL_op rfl ?_ | refine WR_late rfl rfl rfl ?_ | refine WR_op rfl rfl ?_); (first | (refine OE ?_; try intro _) | refine OW_callP rfl (hF := of_fn) (hk := ?_) | (refine OW_call rfl (hF := cloneE_fn hv1 enL_one (by omega)) (hk := ?_); rintro _ _ ⟨T0, rfl, hb0⟩)); try refine SD ?_) | refine RC ?_ | refine RU ?_ | refine WC_draw_all (id := 1) 12 (Cs [0,1,2,3,4,8] <| .either 5 (.calm 6 <| .either 7 (.must 9 <| .must 10 <| .calm 11 <| .done) 9 (.must 7 <| .must 10 <| .calm 11 <| .done)) 9 (.must 5 <| .calm 6 <| .must 7 <| .must 10 <| .calm 11 <| .done)) mixed (by kernel_rfl) ?_)
    refine WR_either ?_ ?_
    · repeat (first | refine RQr ?_ | (refine RX ?_; (first | refine QW_of (Qt_lookVE rfl) ?_)) | ((first | refine WL_op rfl ?_ | refine WR_late rfl rfl rfl ?_ | refine WR_op rfl rfl ?_); (first | (refine OE ?_; try intro _) | refine OW_callP rfl (hF := of_fn) (hk := ?_) | (refine OW_call rfl (hF := cloneE_fn hv1 enL_one (by omega)) (hk := ?_); rintro _ _ ⟨T0, rfl, hb0⟩)); try refine SD ?_) | refine RC ?_ | refine RU ?_ | refine WC_draw_all (id := 1) 12 (Cs [0,1,2,3,4,8] <| .either 5 (.calm 6 <| .either 7 (.must 9 <| .must 10 <| .calm 11 <| .done) 9 (.must 7 <| .must 10 <| .calm 11 <| .done)) 9 (.must 5 <| .calm 6 <| .must 7 <| .must 10 <| .calm 11 <| .done)) mixed (by kernel_rfl) ?_)
      refine WR_either ?_ ?_
      · repeat (first | refine RQr ?_ | (refine RX ?_; (first | refine QW_of (Qt_lookVE rfl) ?_)) | ((first | refine WL_op rfl ?_ | refine WR_late rfl rfl rfl ?_ | refine WR_op rfl rfl ?_); (first | (refine OE ?_; try intro _) | refine OW_callP rfl (hF := of_fn) (hk := ?_) | (refine OW_call rfl (hF := cloneE_fn hv1 enL_one (by omega)) (hk := ?_); rintro _ _ ⟨T0, rfl, hb0⟩)); try refine SD ?_) | refine RC ?_ | refine RU ?_ | refine WC_draw_all (id := 1) 12 (Cs [0,1,2,3,4,8] <| .either 5 (.calm 6 <| .either 7 (.must 9 <| .must 10 <| .calm 11 <| .done) 9 (.must 7 <| .must 10 <| .calm 11 <| .done)) 9 (.must 5 <| .calm 6 <| .must 7 <| .must 10 <| .calm 11 <| .done)) mixed (by kernel_rfl) ?_)
        rename_i sb
        obtain ⟨a0, cap0, rfl, _, _⟩ := id hb0.val
        refine WR_op rfl rfl (OW_append_buf (A := [(sb, Obj.cells (enC e).toArray 53 (0, 0))]) (T := T0) (B := (x3, Obj.cells (enC e).toArray 53 (0, 0)) :: (pb, Obj.cells (PtC tb mb nd cl l.length) 89 (0, 0)) :: (mb, Obj.map es ck) :: F) rfl rfl rfl rfl rfl hb0 (m := 1) (news := enC e) (srcVec ⟨rfl, _, 1, rfl, Nat.le_refl _, by decide, .inr ⟨sb, 0, (enC e).toArray, 53, (0, 0), 0, rfl, rfl, fun j x hx => by rw [Nat.zero_add]; simpa using hx⟩⟩ hones) (by decide) (by simp only [maxLen]; omega) (by omega) ?_)
        intro v1 T1 hb1
        obtain ⟨g0, off, cap, cur, rfl, rfl, hown⟩ := (id hb1 : Buf _ _ _ _ _ _).resolve_left (fun h => by have := h.2.1; omega)
        refine ⟨sub_mem (.cons _ (.cons _ (.refl _))), ?_⟩
        repeat (first | refine RQr ?_ | (refine RX ?_; (first | refine QW_of (Qt_lookVE rfl) ?_)) | ((first | refine WL_op rfl ?_ | refine WR_late rfl rfl rfl ?_ | refine WR_op rfl rfl ?_); (first | (refine OE ?_; try intro _) | refine OW_callP rfl (hF := of_fn) (hk := ?_) | (refine OW_call rfl (hF := cloneE_fn hv1 enL_one (by omega)) (hk := ?_); rintro _ _ ⟨T0, rfl, hb0⟩)); try refine SD ?_) | refine RC ?_ | refine RU ?_ | refine WC_draw_all (id := 1) 12 (Cs [0,1,2,3,4,8] <| .either 5 (.calm 6 <| .either 7 (.must 9 <| .must 10 <| .calm 11 <| .done) 9 (.must 7 <| .must 10 <| .calm 11 <| .done)) 9 (.must 5 <| .calm 6 <| .must 7 <| .must 10 <| .calm 11 <| .done)) mixed (by kernel_rfl) ?_)
        rw [hlr]
        exact ⟨_, ⟨g0, off, cap, cur, hcat hown, rfl⟩, ⟨rfl, rfl, rfl, trivial⟩, rfl, by exact .cons _ (.refl _)⟩
      · repeat (first | refine RQr ?_ | (refine RX ?_; (first | refine QW_of (Qt_lookVE rfl) ?_)) | ((first | refine WL_op rfl ?_ | refine WR_late rfl rfl rfl ?_ | refine WR_op rfl rfl ?_); (first | (refine OE ?_; try intro _) | refine OW_callP rfl (hF := of_fn) (hk := ?_) | (refine OW_call rfl (hF := cloneE_fn hv1 enL_one (by omega)) (hk := ?_); rintro _ _ ⟨T0, rfl, hb0⟩)); try refine SD ?_) | refine RC ?_ | refine RU ?_ | refine WC_draw_all (id := 1) 12 (Cs [0,1,2,3,4,8] <| .either 5 (.calm 6 <| .either 7 (.must 9 <| .must 10 <| .calm 11 <| .done) 9 (.must 7 <| .must 10 <| .calm 11 <| .done)) 9 (.must 5 <| .calm 6 <| .must 7 <| .must 10 <| .calm 11 <| .done)) mixed (by kernel_rfl) ?_)
        rename_i sb
        refine WR_op rfl rfl (OW_call rfl (hF := cloneE_fn (hv1.cons _) enL_one (by omega)) (hk := ?_))
        rintro _ _ ⟨T0, rfl, hb0⟩
        refine ⟨sub_mem (List.Sublist.trans (.cons _ (.refl _)) (List.sublist_append_right _ _)), ?_⟩
        obtain ⟨a0, cap0, rfl, _, _⟩ := id hb0.val
        refine WR_op rfl rfl (OW_append_buf (A := []) (T := T0) (B := (sb, Obj.cells (enC e).toArray 53 (0, 0)) :: (x3, Obj.cells (enC e).toArray 53 (0, 0)) :: (pb, Obj.cells (PtC tb mb nd cl l.length) 89 (0, 0)) :: (mb, Obj.map es ck) :: F) rfl rfl rfl rfl rfl hb0 (m := 1) (news := enC e) (srcVec ⟨rfl, _, 1, rfl, Nat.le_refl _, by decide, .inr ⟨sb, 0, (enC e).toArray, 53, (0, 0), T0.length, rfl, by simp, fun j x hx => by rw [Nat.zero_add]; simpa using hx⟩⟩ hones) (by decide) (by simp only [maxLen]; omega) (by omega) ?_)
        intro v1 T1 hb1
        obtain ⟨g0, off, cap, cur, rfl, rfl, hown⟩ := (id hb1 : Buf _ _ _ _ _ _).resolve_left (fun h => by have := h.2.1; omega)
        refine ⟨sub_mem (.cons _ (.cons _ (.refl _))), ?_⟩
        repeat (first | refine RQr ?_ | (refine RX ?_; (first | refine QW_of (Qt_lookVE rfl) ?_)) | ((first | refine WL_op rfl ?_ | refine WR_late rfl rfl rfl ?_ | refine WR_op rfl rfl ?_); (first | (refine OE ?_; try intro _) | refine OW_callP rfl (hF := of_fn) (hk := ?_) | (refine OW_call rfl (hF := cloneE_fn hv1 enL_one (by omega)) (hk := ?_); rintro _ _ ⟨T0, rfl, hb0⟩)); try refine SD ?_) | refine RC ?_ | refine RU ?_ | refine WC_draw_all (id := 1) 12 (Cs [0,1,2,3,4,8] <| .either 5 (.calm 6 <| .either 7 (.must 9 <| .must 10 <| .calm 11 <| .done) 9 (.must 7 <| .must 10 <| .calm 11 <| .done)) 9 (.must 5 <| .calm 6 <| .must 7 <| .must 10 <| .calm 11 <| .done)) mixed (by kernel_rfl) ?_)
        rw [hlr]
        exact ⟨_, ⟨g0, off, cap, cur, hcat hown, rfl⟩, ⟨rfl, rfl, rfl, trivial⟩, rfl, by exact .cons_cons _ (.cons _ (.refl _))⟩
    · repeat (first | refine RQr ?_ | (refine RX ?_; (first | refine QW_of (Qt_lookVE rfl) ?_)) | ((first | refine WL_op rfl ?_ | refine WR_late rfl rfl rfl ?_ | refine WR_op rfl rfl ?_); (first | (refine OE ?_; try intro _) | refine OW_callP rfl (hF := of_fn) (hk := ?_) | (refine OW_call rfl (hF := cloneE_fn hv1 enL_one (by omega)) (hk := ?_); rintro _ _ ⟨T0, rfl, hb0⟩)); try refine SD ?_) | refine RC ?_ | refine RU ?_ | refine WC_draw_all (id := 1) 12 (Cs [0,1,2,3,4,8] <| .either 5 (.calm 6 <| .either 7 (.must 9 <| .must 10 <| .calm 11 <| .done) 9 (.must 7 <| .must 10 <| .calm 11 <| .done)) 9 (.must 5 <| .calm 6 <| .must 7 <| .must 10 <| .calm 11 <| .done)) mixed (by kernel_rfl) ?_)
      rename_i sb
      refine WR_op rfl rfl (OW_call rfl (hF := cloneE_fn (hv1.cons _) enL_one (by omega)) (hk := ?_))
      rintro _ _ ⟨T0, rfl, hb0⟩
      refine ⟨sub_mem (List.Sublist.trans (.cons _ (.refl _)) (List.sublist_append_right _ _)), ?_⟩
      obtain ⟨a0, cap0, rfl, _, _⟩ := id hb0.val
      refine WR_op rfl rfl (OW_append_buf (A := []) (T := T0) (B := (sb, Obj.cells (enC e).toArray 53 (0, 0)) :: (x3, Obj.cells (enC e).toArray 53 (0, 0)) :: (pb, Obj.cells (PtC tb mb nd cl l.length) 89 (0, 0)) :: (mb, Obj.map es ck) :: F) rfl rfl rfl rfl rfl hb0 (m := 1) (news := enC e) (srcVec ⟨rfl, _, 1, rfl, Nat.le_refl _, by decide, .inr ⟨sb, 0, (enC e).toArray, 53, (0, 0), T0.length, rfl, by simp, fun j x hx => by rw [Nat.zero_add]; simpa using hx⟩⟩ hones) (by decide) (by simp only [maxLen]; omega) (by omega) ?_)
      intro v1 T1 hb1
      obtain ⟨g0, off, cap, cur, rfl, rfl, hown⟩ := (id hb1 : Buf _ _ _ _ _ _).resolve_left (fun h => by have := h.2.1; omega)
      refine ⟨sub_mem (.cons _ (.cons _ (.refl _))), ?_⟩
      repeat (first | refine RQr ?_ | (refine RX ?_; (first | refine QW_of (Qt_lookVE rfl) ?_)) | ((first | refine WL_op rfl ?_ | refine WR_late rfl rfl rfl ?_ | refine WR_op rfl rfl ?_); (first | (refine OE ?_; try intro _) | refine OW_callP rfl (hF := of_fn) (hk := ?_) | (refine OW_call rfl (hF := cloneE_fn hv1 enL_one (by omega)) (hk := ?_); rintro _ _ ⟨T0, rfl, hb0⟩)); try refine SD ?_) | refine RC ?_ | refine RU ?_ | refine WC_draw_all (id := 1) 12 (Cs [0,1,2,3,4,8] <| .either 5 (.calm 6 <| .either 7 (.must 9 <| .must 10 <| .calm 11 <| .done) 9 (.must 7 <| .must 10 <| .calm 11 <| .done)) 9 (.must 5 <| .calm 6 <| .must 7 <| .must 10 <| .calm 11 <| .done)) mixed (by kernel_rfl) ?_)
      rw [hlr]
      exact ⟨_, ⟨g0, off, cap, cur, hcat hown, rfl⟩, ⟨rfl, rfl, rfl, trivial⟩, rfl, by exact .cons_cons _ (.cons _ (.refl _))⟩
  rintro _ ⟨g0, off, cap, cur, hown, rfl⟩
  repeat (first | refine RQ ?_ | (refine WL_Q ?_; (first | refine QW_of (Qt_lookVE rfl) ?_)) | (refine WL_op rfl ?_; (first | (refine OW_call rfl (hF := sortE_fn hown (by rw [← hlr]; omega)) (hk := ?_); rintro _ _ ⟨rfl, cur', zs, hq, ho', rfl⟩))) | refine RC ?_ | refine WG 2 ?_)
  refine WC_permT (L' := (x3, Obj.cells (enC e).toArray 53 (0, 0)) :: (pb, Obj.cells (PtC tb mb nd cl l.length) 89 (0, 0)) :: (mb, Obj.map es ck) :: (g0, Obj.cells cur' 53 (0, 0)) :: F) (List.perm_middle (l₁ := [_, _, _])) ?_
  refine WC_draw_sub (id := 3) 7 (Cs [0,1,2,3,4,6] <| .must 5 <| .must 7 <| .done) mixed (by kernel_rfl) (List.Sublist.refl _) ?_
  repeat (first | refine RQr ?_ | (refine RX ?_; (first | refine QW_of (Qt_lookVE rfl) ?_)) | ((first | refine WL_op rfl ?_ | refine WR_late rfl rfl rfl ?_ | refine WR_op rfl rfl ?_); (first | refine OW_callP rfl (hF := of_fn) (hk := ?_)); try refine SD ?_) | refine RC ?_ | refine RU ?_ | refine WC_draw_all (id := 3) 7 (Cs [0,1,2,3,4,6] <| .must 5 <| .must 7 <| .done) mixed (by kernel_rfl) ?_)
  refine WR_late rfl rfl rfl (OW_mapPutW rfl rfl rfl rfl (i := 2) rfl hm ?_)
  intro es' ck' hm'
  simp only [List.set_cons_succ, List.set_cons_zero]
  repeat (first | refine RQr ?_ | (refine RX ?_; (first | refine QW_of (Qt_lookVE rfl) ?_)) | (refine OX ?_; (first | (refine OE ?_; try intro _) | refine OW_callP rfl (hF := of_fn) (hk := ?_)); try refine SD ?_) | refine RC ?_ | refine RU ?_ | refine WC_draw_all (id := 3) 7 (Cs [0,1,2,3,4,6] <| .must 5 <| .must 7 <| .done) mixed (by kernel_rfl) ?_ | refine WG 4 ?_)
  have w : IntKind.i64.wrap ((l.length : Int) + 1) = (((e :: l).length : Nat) : Int) := by rw [wI64 (by omega) (by omega)]; simp
  rw [w, show (PtC tb mb nd cl l.length).setIfInBounds 4 (iV (((e :: l).length : Nat) : Int)) = PtC tb mb nd cl ((e :: l).length : Nat) from rfl]
  have hvz : VecM 10 [(g0, Obj.cells cur' 53 (0, 0))] (.slice (some ⟨g0, off, none⟩) (row ++ [e]).length cap) zs.length (enL zs) := by
    rw [← hq.length_eq]
    exact Buf.vecM (E := 53) (.inr ⟨g0, off, cap, cur', rfl, rfl, ho'⟩)
  have hpz : zs.Perm (e :: ofG l e.grp) := hq.trans ((List.perm_append_comm (l₁ := row) (l₂ := [e])).trans (hpr.cons e))
  exact ⟨rfl, _, _, Res0 rfl, .cons _ (.refl _), rfl, _, [(g0, Obj.cells cur' 53 (0, 0))], rfl, ⟨_, _, _, rfl, hm', (hr.mem fun q hq => .tail _ hq).put (hvz.mem fun q hq => by rcases List.mem_singleton.1 hq with rfl; exact .head _) hpz⟩⟩
set_option maxHeartbeats 4000000 in
theorem without_fn {pb mb tb : Nat} {nd cl : Int} {S G F : List (Nat × Obj)} {l : List EnV} {e : EnV} (h : PtAt pb mb tb nd cl S G (e :: l)) (hG : ∀ q ∈ G, q ∈ F) (hn : l.length < 100000) : Fn Tryz.prog 30 [.pointer (some ⟨pb, 0, none⟩), .agg (enC e).toArray] (S ++ F) (fun v L' => v = .tuple #[] ∧ ∃ S' T, L' = S' ++ (T ++ F) ∧ PtAt pb mb tb nd cl S' (T ++ G) l) := by
  obtain ⟨es, ck, ps, rfl, hm, hr⟩ := h.h
  obtain ⟨v0, row, hv0, hvr, hpr⟩ := hr.get e.grp
  have hrl : row.length ≤ l.length + 1 := by rw [hpr.length_eq]; exact ofG_len _ _
  have hmem : e ∈ row := hpr.mem_iff.2 (by rw [ofG_cons_eq rfl]; exact .head _)
  refine Fn_enter Tryz.func30 rfl Tryz.ntmps30 rfl fun gw => ?_
  have hone := enC_one e
  have hsz : (enC e).toArray.size = 10 := rfl
  have hme := hm.ents
  repeat (first | refine RQ ?_ | (refine WL_Q ?_; (first | refine QW_of (Qt_lookVE rfl) ?_)) | (refine RE ?_; try intro _) | refine RC ?_ | refine WG 0 ?_)
  rename_i x3
  refine WC_permT (L' := (x3, Obj.cells (enC e).toArray 53 (0, 0)) :: (pb, Obj.cells (PtC tb mb nd cl (e :: l).length) 89 (0, 0)) :: (mb, Obj.map es ck) :: F) (.refl _) ?_
  have hv1 : Vec 10 ((x3, Obj.cells (enC e).toArray 53 (0, 0)) :: (pb, Obj.cells (PtC tb mb nd cl (e :: l).length) 89 (0, 0)) :: (mb, Obj.map es ck) :: F) v0 row.length (enL row) := ((((hvr.mem hG).vec fun _ h => h).cons _).cons _).cons _
  have hmi : ((x3, Obj.cells (enC e).toArray 53 (0, 0)) :: (pb, Obj.cells (PtC tb mb nd cl (e :: l).length) 89 (0, 0)) :: (mb, Obj.map es ck) :: F)[2]? = some (mb, Obj.map es ck) := rfl
  refine WC_draw_sub (id := 1) 8 (Cs [0,1,2,3,4] <| .must 5 <| Cs [6,7] <| .done) mixed (by kernel_rfl) (List.Sublist.refl _) ?_
  repeat (first | refine RQr ?_ | (refine RX ?_; (first | refine QW_of (Qt_lookVE rfl) ?_)) | (refine OX ?_; (first | refine OW_callP rfl (hF := of_fn) (hk := ?_)); try refine SD ?_) | refine RC ?_ | refine RU ?_ | refine WC_draw_all (id := 1) 8 (Cs [0,1,2,3,4] <| .must 5 <| Cs [6,7] <| .done) mixed (by kernel_rfl) ?_)
  repeat (first | refine RQ ?_ | (refine WL_Q ?_; (first | refine QW_of (Qt_lookVE rfl) ?_)) | (refine WL_op rfl ?_; (first | (refine OW_call rfl (hF := indexE_fn (by omega) hmem hv1) (hk := ?_); rintro _ _ ⟨⟨k, hk, rfl⟩, rfl⟩) | (refine OW_call rfl (hF := cloneE_fn hv1 enL_one (by omega)) (hk := ?_); rintro _ _ ⟨T0, rfl, hb0⟩))) | refine RC ?_ | refine WG 2 ?_ | refine WG 3 ?_)
  have hkl := (List.getElem?_eq_some_iff.1 hk).1
  obtain ⟨g0, off, cap, cur, rfl, rfl, hown⟩ := (id hb0 : Buf _ _ _ _ _ _).resolve_left (fun h => by have := h.2.1; omega)
  have wk : IntKind.i64.wrap ((k : Int) + 1) = ((k + 1 : Nat) : Int) := by rw [wI64 (by omega) (by omega)]; omega
  repeat (first | refine RQ ?_ | (refine WL_Q ?_; (first | refine QW_of (Qt_lookVE rfl) ?_)) | (refine WL_op rfl ?_; (first | (refine OW_call rfl (hF := cloneE_fn hv1 enL_one (by omega)) (hk := ?_); rintro _ _ ⟨T0, rfl, hb0⟩))) | refine RC ?_ | refine WG 3 ?_)
  rw [wk]
  refine WL_op rfl (OW_call rfl (hF := deleteE_fn hown (by omega) hkl) (hk := ?_))
  rintro _ _ ⟨cur', rfl, ho', rfl⟩
  obtain ⟨ys, hys⟩ : ∃ ys, ys = row.take k ++ row.drop (k + 1) := ⟨_, rfl⟩
  rw [← hys] at ho' ⊢
  have hpy : ys.Perm (ofG l e.grp) := by
    have h1 : row.Perm (e :: ys) := by
      have h2 : row = row.take k ++ e :: row.drop (k + 1) := by
        rw [← (List.getElem?_eq_some_iff.1 hk).2, List.getElem_cons_drop, List.take_append_drop]
      rw [hys]
      exact (List.Perm.of_eq h2).trans List.perm_middle
    have h3 := h1.symm.trans hpr
    rw [ofG_cons_eq rfl] at h3
    exact h3.cons_inv
  have w : IntKind.i64.wrap ((((e :: l).length : Nat) : Int) - 1) = ((l.length : Nat) : Int) := by rw [List.length_cons, wI64 (by omega) (by omega)]; omega
  repeat (first | refine RQ ?_ | (refine WL_Q ?_; (first | refine QW_of (Qt_lookVE rfl) ?_)) | (refine WL_op rfl ?_; (first | (refine OW_call rfl (hF := cloneE_fn hv1 enL_one (by omega)) (hk := ?_); rintro _ _ ⟨T0, rfl, hb0⟩))) | refine RC ?_ | refine WG 3 ?_)
  refine WC_meet2 (fun σ => ∃ es' ck' ps', MapV grpK es' ck' ps' ∧ RowsE ((g0, Obj.cells cur' 53 (0, 0)) :: G) ps' l ∧ σ = ⟨[(0, .pointer (some ⟨pb, 0, none⟩))], [], (pb, Obj.cells (PtC tb mb nd cl (e :: l).length) 89 (0, 0)) :: (mb, Obj.map es' ck') :: (g0, Obj.cells cur' 53 (0, 0)) :: F⟩) ?_ ?_
  · refine WC_permT (L' := (x3, Obj.cells (enC e).toArray 53 (0, 0)) :: (pb, Obj.cells (PtC tb mb nd cl (e :: l).length) 89 (0, 0)) :: (mb, Obj.map es ck) :: (g0, Obj.cells cur' 53 (0, 0)) :: F) (List.perm_middle (l₁ := [_, _, _])) ?_
    by_cases hy : ys.length = 0
    · have d : ((((ys.length : Nat) : Int)) == 0) = true := by simpa using hy
      have hy0 : ys = [] := List.eq_nil_of_length_eq_zero hy
      repeat (first | refine RQ ?_ | (refine WL_Q ?_; (first | refine QW_of (Qt_lookVE rfl) ?_)) | refine RC ?_ | refine WG 4 ?_)
      refine WC_draw_sub (id := 5) 7 (Cs [0,1,2,3,4] <| .must 5 <| .must 6 <| .done) mixed (by kernel_rfl) (.cons_cons _ (.cons_cons _ (List.nil_sublist _))) ?_
      repeat (first | refine RQr ?_ | (refine RX ?_; (first | refine QW_of (Qt_lookVE rfl) ?_)) | ((first | refine WL_op rfl ?_ | refine WR_late rfl rfl rfl ?_ | refine WR_op rfl rfl ?_); (first | refine OW_callP rfl (hF := of_fn) (hk := ?_)); try refine SD ?_) | refine RC ?_ | refine RU ?_ | refine WC_draw_all (id := 5) 7 (Cs [0,1,2,3,4] <| .must 5 <| .must 6 <| .done) mixed (by kernel_rfl) ?_)
      refine WR_op rfl rfl (OW_mapDelW grpK_inj rfl rfl rfl (i := 2) rfl hm ?_)
      intro es' hm'
      simp only [List.set_cons_succ, List.set_cons_zero]
      refine ⟨sub_mem (.cons_cons _ (.cons_cons _ (List.nil_sublist _))), ?_⟩
      repeat (first | refine RQr ?_ | (refine RX ?_; (first | refine QW_of (Qt_lookVE rfl) ?_)) | (refine OX ?_; (first | refine OW_callP rfl (hF := of_fn) (hk := ?_)); try refine SD ?_) | refine RC ?_ | refine RU ?_ | refine WC_draw_all (id := 5) 7 (Cs [0,1,2,3,4] <| .must 5 <| .must 6 <| .done) mixed (by kernel_rfl) ?_)
      refine ⟨_, ⟨es', ck, _, hm', (hr.mem fun q hq => .tail _ hq).del (by rw [hy0] at hpy; exact hpy.symm.eq_nil), rfl⟩, ⟨rfl, trivial⟩, rfl, .cons _ (.refl _)⟩
    · have d : ((((ys.length : Nat) : Int)) == 0) = false := by simpa using hy
      repeat (first | refine RQ ?_ | (refine WL_Q ?_; (first | refine QW_of (Qt_lookVE rfl) ?_)) | refine RC ?_ | refine WG 4 ?_)
      refine WC_draw_sub (id := 6) 7 (Cs [0,1,2,3,4,6] <| .must 5 <| .must 7 <| .done) mixed (by kernel_rfl) (List.Sublist.refl _) ?_
      repeat (first | refine RQr ?_ | (refine RX ?_; (first | refine QW_of (Qt_lookVE rfl) ?_)) | ((first | refine WL_op rfl ?_ | refine WR_late rfl rfl rfl ?_ | refine WR_op rfl rfl ?_); (first | refine OW_callP rfl (hF := of_fn) (hk := ?_)); try refine SD ?_) | refine RC ?_ | refine RU ?_ | refine WC_draw_all (id := 6) 7 (Cs [0,1,2,3,4,6] <| .must 5 <| .must 7 <| .done) mixed (by kernel_rfl) ?_)
      refine WR_late rfl rfl rfl (OW_mapPutW rfl rfl rfl rfl (i := 2) rfl hm ?_)
      intro es' ck' hm'
      simp only [List.set_cons_succ, List.set_cons_zero]
      repeat (first | refine RQr ?_ | (refine RX ?_; (first | refine QW_of (Qt_lookVE rfl) ?_)) | (refine OX ?_; (first | refine OW_callP rfl (hF := of_fn) (hk := ?_)); try refine SD ?_) | refine RC ?_ | refine RU ?_ | refine WC_draw_all (id := 6) 7 (Cs [0,1,2,3,4,6] <| .must 5 <| .must 7 <| .done) mixed (by kernel_rfl) ?_)
      have hvy : VecM 10 [(g0, Obj.cells cur' 53 (0, 0))] (.slice (some ⟨g0, off, none⟩) ys.length cap) ys.length (enL ys) := Buf.vecM (E := 53) (.inr ⟨g0, off, cap, cur', rfl, rfl, ho'⟩)
      refine ⟨_, ⟨es', ck', _, hm', (hr.mem fun q hq => .tail _ hq).cut (fun h => hy (by rw [h]; rfl)) (hvy.mem fun q hq => by rcases List.mem_singleton.1 hq with rfl; exact .head _) hpy, rfl⟩, ⟨rfl, trivial⟩, rfl, .cons _ (.refl _)⟩
  rintro _ ⟨es', ck', ps', hm', hr', rfl⟩
  repeat (first | refine RQ ?_ | (refine WL_Q ?_; (first | refine QW_of (Qt_lookVE rfl) ?_)) | (refine RE ?_; try intro _) | refine RC ?_ | refine WG 7 ?_)
  rw [w, show (PtC tb mb nd cl (e :: l).length).setIfInBounds 4 (iV ((l.length : Nat) : Int)) = PtC tb mb nd cl (l.length : Nat) from rfl]
  exact ⟨rfl, _, _, Res0 rfl, .refl _, rfl, _, [(g0, Obj.cells cur' 53 (0, 0))], rfl, ⟨_, _, _, rfl, hm', hr'⟩⟩
end Go.Proofs.YtekmmhmhcpaiaaaGreat
