/-
  A part of what the last of these texts needs; by itself it proves no statement.
-/
import Derived.WalkSpells
import Derived.ProofKit
import Derived.ChangeSame
import Derived.ChangeVars
import Derived.JoinedOf
import Derived.LaidLaws
import Derived.LaidHandle
import Derived.Stop.Joined
import Derived.Test.YtgimodceldoniaaGreatDoorKN9
namespace Go.Proofs.YtgimodceldoniaaGreatDoor
open Go.RowKit
attribute [local irreducible] Fn WC WL WR OW Qt YieldFn QW FnP FnD FnE
set_option maxHeartbeats 2000000 in
theorem sameCmd_fn {cs ds : Array Value} {L : List (Nat × Obj)} {a a2 : Option Addr} {cap cap2 : Nat} {ch ct : List Value} {bins : List (List Value)} (hz : cs.size = 10) (hz2 : ds.size = 10) (hn : bins.length ≤ 1000000) (hch : Oks chF ch) (hct : Oks ctF ct) (hb : ∀ vs ∈ bins, Oks binF vs)
    (hl : Lies cs 0 (ch ++ (.slice a bins.length cap :: ct))) (he : Elems L a 1 bins) (hl2 : Lies ds 0 (ch ++ (.slice a2 bins.length cap2 :: ct))) (he2 : Elems L a2 1 bins) :
    Fn Tryz.prog 42 [.agg cs, .agg ds] L (fun v L' => v = .bool true ∧ L' = L) := by
  have o1 := cmd_one hz hch hct rfl hl
  have o2 := cmd_one hz2 hch hct rfl hl2
  have q1 : (encCmd ch bins ct == encCmd ch bins ct) = true := beq_self_eq_true _
  refine Fn_enter Tryz.func42 rfl Tryz.ntmps42 rfl fun g => ?_
  repeat (first | refine RQr ?_ | (refine RX ?_; (first | refine QW_of (Qt_eql_struct rfl) ?_ | refine QW_of (Qt_eql_flat rfl) ?_)) | (refine OX ?_; (first | (refine OE ?_; try intro _) | refine OW_callP rfl (hF := rCmd_fn hz hn hch hct hb hl (by repeat (first | with_reducible assumption | apply Elems.cons))) (hk := ?_) | refine OW_callP rfl (hF := rCmd_fn hz2 hn hch hct hb hl2 (by repeat (first | with_reducible assumption | apply Elems.cons))) (hk := ?_)); try refine SD ?_) | refine RC ?_ | refine RU ?_ | refine WC_draw_all (id := 1) 6 (Cs [0,2] <| .must 1 <| .must 3 <| Cs [4,5] <| .done) mixed (by kernel_rfl) ?_ | refine WC_region ?_)
  rw [q1]
  exact ⟨rfl, _, L, Res1 rfl (resV_tmp rfl), .cons _ (.cons _ (.refl _)), rfl, rfl⟩
set_option maxHeartbeats 2000000 in
theorem sameChunk_fn {cs ds : Array Value} {L : List (Nat × Obj)} {a a2 : Option Addr} {cap cap2 : Nat} {kh : List Value} {ents : List (List Value)} (hz : cs.size = 4) (hz2 : ds.size = 4) (hn : ents.length ≤ 1000000) (hkh : Oks khF kh) (hb : ∀ vs ∈ ents, Oks entryF vs)
    (hl : Lies cs 0 (kh ++ [.slice a ents.length cap])) (he : Elems L a 10 ents) (hl2 : Lies ds 0 (kh ++ [.slice a2 ents.length cap2])) (he2 : Elems L a2 10 ents) :
    Fn Tryz.prog 43 [.agg cs, .agg ds] L (fun v L' => v = .bool true ∧ L' = L) := by
  have one : ∀ {cs : Array Value} {a : Option Addr} {cap : Nat}, cs.size = 4 → Lies cs 0 (kh ++ [.slice a ents.length cap]) → (cs.toList.all fun v => v.oneCell') = true := fun hz hl => by
    have l1 := hkh.len
    simp only [List.length_cons, List.length_nil] at l1
    rw [lies_whole hl (by rw [hz]; simp only [List.length_append, List.length_cons, List.length_nil]; omega)]
    show ((kh ++ [_]).all _) = true
    rw [List.all_append, hkh.cells1]; rfl
  have o1 := one hz hl
  have o2 := one hz2 hl2
  have q1 : (encChunk kh ents == encChunk kh ents) = true := beq_self_eq_true _
  refine Fn_enter Tryz.func43 rfl Tryz.ntmps43 rfl fun g => ?_
  repeat (first | refine RQr ?_ | (refine RX ?_; (first | refine QW_of (Qt_eql_struct rfl) ?_ | refine QW_of (Qt_eql_flat rfl) ?_)) | (refine OX ?_; (first | (refine OE ?_; try intro _) | refine OW_callP rfl (hF := rChunk_fn hn hkh hb hl (by repeat (first | with_reducible assumption | apply Elems.cons))) (hk := ?_) | refine OW_callP rfl (hF := rChunk_fn hn hkh hb hl2 (by repeat (first | with_reducible assumption | apply Elems.cons))) (hk := ?_)); try refine SD ?_) | refine RC ?_ | refine RU ?_ | refine WC_draw_all (id := 1) 6 (Cs [0,2] <| .must 1 <| .must 3 <| Cs [4,5] <| .done) mixed (by kernel_rfl) ?_ | refine WC_region ?_)
  rw [q1]
  exact ⟨rfl, _, L, Res1 rfl (resV_tmp rfl), .cons _ (.cons _ (.refl _)), rfl, rfl⟩
set_option maxHeartbeats 4000000 in
theorem sameMsg_fn {cs ds : Array Value} {L : List (Nat × Obj)} {m : MV} {a a' a2 a2' : Option Addr} {cap cap' cap2 cap2' : Nat} (h : MsgAt L cs m a cap a' cap') (h2 : MsgAt L ds m a2 cap2 a2' cap2') (nb : m.bins.length ≤ 1000000) (ne : m.ents.length ≤ 1000000) :
    Fn Tryz.prog 26 [.agg cs, .agg ds] L (fun v L' => v = .bool true ∧ L' = L) := by
  have hz := h.size
  have hz2 := h2.size
  have o1 := MV.all_one h.ok h.size h.lies
  have o2 := MV.all_one h2.ok h2.size h2.lies
  obtain ⟨g0, g1, g2, g3, g4, g5, g6⟩ := MV.cells_at h.ok h.lies
  simp only [Nat.zero_add] at g0 g1 g2 g3 g4 g5 g6
  obtain ⟨k0, k1, k2, k3, k4, k5, k6⟩ := MV.cells_at h2.ok h2.lies
  simp only [Nat.zero_add] at k0 k1 k2 k3 k4 k5 k6
  have q0 : (m.kind == m.kind) = true := beq_self_eq_true _
  have q1 : (m.ver == m.ver) = true := beq_self_eq_true _
  have q3 : (m.time == m.time) = true := beq_self_eq_true _
  have q4 : (m.num == m.num) = true := beq_self_eq_true _
  have lr := h.ok.rc.len
  have lc := h.ok.ch.len
  have lt := h.ok.ct.len
  have lk := h.ok.kh.len
  simp only [List.length_cons, List.length_nil] at lr lc lt lk
  have zr : (cs.extract 2 (2 + 6)).size = 6 := size_extract (by omega)
  have yr : (ds.extract 2 (2 + 6)).size = 6 := size_extract (by omega)
  have z5 : (cs.extract 10 (10 + 10)).size = 10 := size_extract (by omega)
  have y5 : (ds.extract 10 (10 + 10)).size = 10 := size_extract (by omega)
  have z6 : (cs.extract 20 (20 + 4)).size = 4 := size_extract (by omega)
  have y6 : (ds.extract 20 (20 + 4)).size = 4 := size_extract (by omega)
  have r1 : Lies (cs.extract 2 (2 + 6)) 0 m.rc := lies_extract g2 (by omega)
  have r2 : Lies (ds.extract 2 (2 + 6)) 0 m.rc := lies_extract k2 (by omega)
  have s5 : Lies (cs.extract 10 (10 + 10)) 0 (m.ch ++ (.slice a m.bins.length cap :: m.ct)) := lies_extract g5 (by simp only [List.length_append, List.length_cons]; omega)
  have t5 : Lies (ds.extract 10 (10 + 10)) 0 (m.ch ++ (.slice a2 m.bins.length cap2 :: m.ct)) := lies_extract k5 (by simp only [List.length_append, List.length_cons]; omega)
  have s6 : Lies (cs.extract 20 (20 + 4)) 0 (m.kh ++ [.slice a' m.ents.length cap']) := lies_extract g6 (by simp only [List.length_append, List.length_cons, List.length_nil]; omega)
  have t6 : Lies (ds.extract 20 (20 + 4)) 0 (m.kh ++ [.slice a2' m.ents.length cap2']) := lies_extract k6 (by simp only [List.length_append, List.length_cons, List.length_nil]; omega)
  have eqr : EqV Tryz.prog 26 (cs.extract 2 (2 + 6)) (ds.extract 2 (2 + 6)) true := eqp_Rec.same (by decide) guard_Rec zr yr r1 r2 h.ok.rc
  have hch := h.ok.ch
  have hct := h.ok.ct
  have hkh := h.ok.kh
  have hbi := h.ok.bins
  have hen := h.ok.ents
  have e1 := h.bins
  have e2 := h.ents
  have e3 := h2.bins
  have e4 := h2.ents
  refine Fn_enter Tryz.func26 rfl Tryz.ntmps26 rfl fun g => ?_
  repeat (first | refine RQ ?_ | ((first | refine WL_Q ?_ | refine WL_Y ?_); (first | refine QW_of (Qt_eql_struct rfl) ?_ | refine QW_of (Qt_eql_flat rfl) ?_)) | (refine RE ?_; try intro _) | ((first | refine WL_op rfl ?_ | refine WL_yes (h := ?_)); (first | refine OW_callP rfl (hF := sameCmd_fn z5 y5 nb hch hct hbi s5 (by repeat (first | with_reducible assumption | apply Elems.cons)) t5 (by repeat (first | with_reducible assumption | apply Elems.cons))) (hk := ?_) | refine OW_callP rfl (hF := sameChunk_fn z6 y6 ne hkh hen s6 (by repeat (first | with_reducible assumption | apply Elems.cons)) t6 (by repeat (first | with_reducible assumption | apply Elems.cons))) (hk := ?_))) | refine RC ?_ | refine WC_region ?_)
  exact ⟨rfl, _, L, Res1 rfl (resV_tmp rfl), .cons _ (.cons _ (.refl _)), rfl, rfl⟩
end Go.Proofs.YtgimodceldoniaaGreatDoor
namespace Go.Proofs.YtgimodceldoniaaGreatDoor
open Go.RowKit
attribute [local irreducible] Fn WC WL WR OW Qt YieldFn QW FnP FnD FnE
theorem gramAt_of {g : GV} {cs : Array Value} {T : List (Nat × Obj)} (h : GramOk g cs T) (hg : g.Ok) : ∃ x cap x' cap', GramAt T cs g x cap x' cap' := by
  obtain ⟨vb, ve, T1, T2, rfl, h2, h3, rfl⟩ := h
  obtain ⟨x, cap, rfl, q1, q2, e1⟩ := h2.elems (fun vs hv => (hg.m.bins vs hv).len) rfl
  obtain ⟨x', cap', rfl, q3, q4, e2⟩ := h3.elems (fun vs hv => (hg.m.ents vs hv).len) rfl
  exact ⟨x, cap, x', cap', hg, rfl, e1.mem fun _ hq => List.mem_append_left _ hq, e2.mem fun _ hq => List.mem_append_right _ hq, q1, q3, q2, q4⟩
theorem GramAt.at_ {L : List (Nat × Obj)} {gs : Array Value} {g : GV} {a : Option Addr} {cap : Nat} {a' : Option Addr} {cap' : Nat} (h : GramAt L gs g a cap a' cap') : gs[0]? = some (.int .i64 g.life) ∧ gs[1]? = some (.int .i64 g.chan) ∧ gs[2]? = some (.bool g.ack) ∧ gs[3]? = some (.int .u64 g.seq) ∧ gs[4]? = some (.int .i64 g.room) := by
  have e := h.lit
  subst e
  exact ⟨rfl, rfl, rfl, rfl, rfl⟩
theorem GramAt.msgX {L : List (Nat × Obj)} {gs : Array Value} {g : GV} {a : Option Addr} {cap : Nat} {a' : Option Addr} {cap' : Nat} (h : GramAt L gs g a cap a' cap') : MsgAt L (gs.extract 5 (5 + 24)) g.m a cap a' cap' := by
  have hm := h.msg
  have e : gs.extract 5 (5 + 24) = (g.m.cells a cap a' cap').toArray := by
    have e := h.lit
    subst e
    have hl := MV.cells_len h.m a cap a' cap'
    apply Array.ext'
    simp only [List.extract_toArray, List.extract_eq_take_drop, GV.cells]
    show List.take 24 (g.m.cells a cap a' cap') = _
    exact List.take_of_length_le (by have : (g.m.cells a cap a' cap').length = 24 := hl; omega)
  rw [e]; exact hm
set_option maxHeartbeats 4000000 in
theorem sameGram_fn {cs ds : Array Value} {L : List (Nat × Obj)} {m : GV} {a a' a2 a2' : Option Addr} {cap cap' cap2 cap2' : Nat} (h : GramAt L cs m a cap a' cap') (h2 : GramAt L ds m a2 cap2 a2' cap2') (nb : m.m.bins.length ≤ 1000000) (ne : m.m.ents.length ≤ 1000000) :
    Fn Tryz.prog 10 [.agg cs, .agg ds] L (fun v L' => v = .bool true ∧ L' = L) := by
  have hz := h.size
  have hz2 := h2.size
  have o1 := h.one
  have o2 := h2.one
  obtain ⟨g0, g1, g2, g3, g4⟩ := h.at_
  obtain ⟨k0, k1, k2, k3, k4⟩ := h2.at_
  have q0 : (m.life == m.life) = true := beq_self_eq_true _
  have q1 : (m.chan == m.chan) = true := beq_self_eq_true _
  have q2 : (m.ack == m.ack) = true := beq_self_eq_true _
  have q3 : (m.seq == m.seq) = true := beq_self_eq_true _
  have q4 : (m.room == m.room) = true := beq_self_eq_true _
  have M1 := h.msgX
  have M2 := h2.msgX
  refine Fn_enter Tryz.func10 rfl Tryz.ntmps10 rfl fun g => ?_
  repeat (first | refine RQ ?_ | ((first | refine WL_Q ?_ | refine WL_Y ?_); (first | refine QW_of (Qt_eql_struct rfl) ?_)) | (refine RE ?_; try intro _) | ((first | refine WL_op rfl ?_ | refine WL_yes (h := ?_)); (first | refine OW_callP rfl (hF := sameMsg_fn (by repeat (first | with_reducible exact M1 | apply MsgAt.cons)) (by repeat (first | with_reducible exact M2 | apply MsgAt.cons)) nb ne) (hk := ?_))) | refine RC ?_ | refine WC_region ?_)
  exact ⟨rfl, _, L, Res1 rfl (resV_tmp rfl), .cons _ (.cons _ (.refl _)), rfl, rfl⟩
set_option maxHeartbeats 1000000 in
theorem told18_flt {L : List (Nat × Obj)} (hH : HandleIn L) {p code a i : Nat} (hc : code ≠ 0) (hi : L[i]? = some (p, fltO code a)) : Fn Tryz.prog 9 [flt p, fltA code a] L (fun v L' => v = .bool true ∧ L' = L) := by
  have d1 : (((code : Nat) : Int) == 0) = false := by simp; omega
  refine Fn_enter Tryz.func9 rfl Tryz.ntmps9 rfl fun g => ?_
  repeat (first | refine RQ ?_ | (refine WL_Q ?_; (first | refine QW_of (Qt_eql_struct rfl) ?_)) | (refine RE ?_; try intro _) | refine RC ?_ | refine WC_regB 4 ?_)
  rename_i b3 b5
  refine WC_draw_sub (id := 4) 18 (Cs [0,1] <| .must 2 <| Cs [3,4,5,6,7,8,9,10,11,12,13,14] <| .must 15 <| Cs [16,17] <| .done) mixed (by kernel_rfl) (.cons _ (.refl _)) ?_
  repeat (first | refine RQr ?_ | ((first | refine WL_Q ?_ | refine WL_Y ?_ | refine WR_Q rfl ?_ | refine WR_late rfl rfl rfl (OW_Q ?_) | refine WR_Y rfl ?_); (first | refine QW_of (Qt_eql_struct rfl) ?_)) | ((first | refine WL_op rfl ?_ | refine WL_yes (h := ?_) | refine WR_late rfl rfl rfl ?_ | refine WR_opG rfl rfl ?_ | refine WR_opYG rfl (h := ?_)); (first | (refine OE ?_; try intro _)); try refine SD ?_) | refine RC ?_ | refine RU ?_ | refine WC_draw_all (id := 4) 18 (Cs [0,1] <| .must 2 <| Cs [3,4,5,6,7,8,9,10,11,12,13,14] <| .must 15 <| Cs [16,17] <| .done) mixed (by kernel_rfl) ?_ | refine WC_region ?_)
  refine WR_opG rfl rfl (OW_call rfl (hF := as_fn (hH.cons _ |>.cons _) (i := 0) rfl) (hk := ?_))
  rintro _ _ ⟨rfl, rfl⟩
  refine ⟨(by first | exact fun _ h => h | exact fun _ h => List.Sublist.subset (by repeat (first | exact .refl _ | exact List.nil_sublist _ | exact List.sublist_append_right _ _ | exact List.Sublist.append (.refl _) (List.sublist_append_right _ _) | apply List.Sublist.cons_cons | apply List.Sublist.cons)) h), ?_⟩
  have hi2 : ((b5, Obj.cells #[.pointer (some ⟨p, 0, none⟩)] 72 (0, 0)) :: (b3, Obj.cells #[.int .i64 code, .int .i64 a] 51 (0, 0)) :: L)[i + 2]? = some (p, fltO code a) := hi
  have d2 : (((code : Nat) : Int) == (code : Int)) = true := by simp
  simp only [List.set_cons_zero]
  repeat (first | refine RQr ?_ | ((first | refine WL_Q ?_ | refine WL_Y ?_ | refine WR_Q rfl ?_ | refine WR_late rfl rfl rfl (OW_Q ?_) | refine WR_Y rfl ?_); (first | refine QW_of (Qt_eql_struct rfl) ?_)) | ((first | refine WL_op rfl ?_ | refine WL_yes (h := ?_) | refine WR_late rfl rfl rfl ?_ | refine WR_opG rfl rfl ?_ | refine WR_opYG rfl (h := ?_)); (first | (refine OE ?_; try intro _)); try refine SD ?_) | refine RC ?_ | refine RU ?_ | refine WC_draw_all (id := 4) 18 (Cs [0,1] <| .must 2 <| Cs [3,4,5,6,7,8,9,10,11,12,13,14] <| .must 15 <| Cs [16,17] <| .done) mixed (by kernel_rfl) ?_ | refine WC_region ?_)
  refine WR_opYG rfl (h := OW_callP rfl (hF := Is_fn hi2) (hk := ?_))
  refine ⟨(by first | exact fun _ h => h | exact fun _ h => List.Sublist.subset (by repeat (first | exact .refl _ | exact List.nil_sublist _ | exact List.sublist_append_right _ _ | exact List.Sublist.append (.refl _) (List.sublist_append_right _ _) | apply List.Sublist.cons_cons | apply List.Sublist.cons)) h), ?_⟩
  repeat (first | refine RQr ?_ | ((first | refine WL_Q ?_ | refine WL_Y ?_ | refine WR_Q rfl ?_ | refine WR_late rfl rfl rfl (OW_Q ?_) | refine WR_Y rfl ?_); (first | refine QW_of (Qt_eql_struct rfl) ?_)) | ((first | refine WL_op rfl ?_ | refine WL_yes (h := ?_) | refine WR_late rfl rfl rfl ?_ | refine WR_opG rfl rfl ?_ | refine WR_opYG rfl (h := ?_)); (first | (refine OE ?_; try intro _)); try refine SD ?_) | refine RC ?_ | refine RU ?_ | refine WC_draw_all (id := 4) 18 (Cs [0,1] <| .must 2 <| Cs [3,4,5,6,7,8,9,10,11,12,13,14] <| .must 15 <| Cs [16,17] <| .done) mixed (by kernel_rfl) ?_ | refine WC_region ?_)
  refine ⟨rfl, _, _, Res1 rfl (resV_tmp rfl), .cons _ (.cons _ (.refl _)), ?_, rfl⟩
  rw [d2]
end Go.Proofs.YtgimodceldoniaaGreatDoor
namespace Go.Proofs.YtgimodceldoniaaGreatDoor
open Go.RowKit
theorem GramAt.mem' {L L' : List (Nat × Obj)} {gs : Array Value} {g : GV} {a : Option Addr} {cap : Nat} {a' : Option Addr} {cap' : Nat} (h : GramAt L gs g a cap a' cap') (hs : ∀ q ∈ L, q ∈ L') : GramAt L' gs g a cap a' cap' := ⟨h.toOk, h.lit, h.bins.mem hs, h.ents.mem hs, h.c1, h.c2, h.m1, h.m2⟩
attribute [local irreducible] Fn WC WL WR OW Qt YieldFn QW FnP FnD FnE
end Go.Proofs.YtgimodceldoniaaGreatDoor
namespace Go.Proofs.YtgimodceldoniaaGreatDoor
open Go.RowKit
theorem madeCells_at {z : Array Value} {n sz j k : Nat} {v : Value} (hz : z.size = sz) (hj : j < n) (hk : z[k]? = some v) : (madeCells z (n * sz))[j * sz + k]? = some v := by
  have hks : k < sz := by rw [← hz]; exact (Array.getElem?_eq_some_iff.1 hk).1
  have hlt : j * sz + k < n * sz := by
    have : (j + 1) * sz ≤ n * sz := Nat.mul_le_mul_right _ hj
    rw [Nat.succ_mul] at this
    omega
  unfold madeCells
  rw [Array.getElem?_map, Array.getElem?_range, if_pos hlt]
  simp only [Option.map_some]
  have e : (j * sz + k) % z.size = k := by rw [hz, Nat.mul_comm, Nat.mul_add_mod, Nat.mod_eq_of_lt hks]
  rw [e, getElem!_pos z k (by omega)]
  rw [Array.getElem?_eq_getElem (by omega)] at hk
  exact hk
section
variable {c : Cx} {o : Oper} {Kn : St → Prop} {K : Exit → St → Prop} {s : List (Nat × Value)} {D : List Deferred} {L : List (Nat × Obj)}
theorem OW_makeN {t E by_ sz d : TypeId} {z : Array Value} [hu : TUnd c.P t (.slice E)] [hrow : TRow c.P E z sz by_] {x y : Operand} {k k' : IntKind} (n : Nat) (ho : o.op = .makeSlice t x y) (hk : ∀ b, Kn ⟨(d, .slice (some ⟨b, 0, none⟩) n n) :: s, D, (b, .cells (madeCells z (n * sz)) E) :: L⟩)
    (hn : Nat.ble (n * by_) 140737488355328 = true := by exact rfl) (hnm : Nat.ble n 140737488355328 = true := by exact rfl) (hx : ev s x = some (.int k (n : Nat)) := by exact rfl) (hy : ev s y = some (.int k' (n : Nat)) := by exact rfl) (hdst : o.dst = some d := by exact rfl) (hd : Nat.blt d c.N = true := by exact rfl) : OW c o Kn K ⟨s, D, L⟩ := fun a w ha => by
  refine ⟨fun _ _ => trivial, ?_⟩
  have hn := Nat.le_of_ble_eq_true hn
  have hnm := Nat.le_of_ble_eq_true hnm
  obtain ⟨ii, zz, r1, r2, r3, r4, r5, r6⟩ := hrow.h
  have hb : (ii.bytes : Int) * ((n : Nat) : Int) ≤ 281474976710656 := by
    rw [r5, Int.mul_comm]
    have : ((n * by_ : Nat) : Int) ≤ 140737488355328 := by omega
    rw [Int.natCast_mul] at this
    omega
  have hr := run_make (P := c.P) w t E ii zz hu.h r1 r2 k k' (n : Nat) (n : Nat) (by omega) (by omega) hb (by omega)
  simp only [Int.toNat_natCast, r4, r3] at hr
  have hr' : (execOp a.eval o).run c.P w = .ok (.value (.slice (some ⟨w.heap.size, 0, none⟩) n n)) (w.alloc (.cells (madeCells z (n * sz)) E)) := by
    simp [execOp, ho, ha.ev hx, ha.ev hy, hr]
  rw [Oper.semAt_eq _ _ _ (by rw [ho]; intro cc h; cases h), hr']
  refine ⟨_, ?_, hk w.heap.size⟩
  rw [hdst]
  exact (ha.mem' (ha.mem.alloc _)).put (d := some d) hd _
theorem OW_buildE {t E n m by_ d : Nat} {z : Array Value} {parts : Array (Nat × Operand)} {xs : List Value} [hu : TUnd c.P t (.slice E)] [hrow : TRow c.P E z n by_] (cs : Array Value) (ho : o.op = .buildSlice t m parts) (hk : ∀ b, Kn ⟨(d, .slice (some ⟨b, 0, none⟩) m m) :: s, D, (b, .cells cs E) :: L⟩)
    (hv : evs s (parts.toList.map fun q => q.2) = some xs := by exact rfl) (hx : evp s parts.toList = some (idxL 0 xs) := by exact rfl) (hm : xs.length = m := by exact rfl) (hc0 : (xs.all fun x => x.cells.size == n) = true := by kernel_rfl) (hcs : (xs.flatMap fun x => x.cells.toList).toArray = cs := by kernel_rfl) (hn0 : Nat.ble 1 (m * n) = true := by exact rfl) (hn1 : Nat.ble (m * n) 16777216 = true := by exact rfl) (hdst : o.dst = some d := by exact rfl) (hd : Nat.blt d c.N = true := by exact rfl) : OW c o Kn K ⟨s, D, L⟩ := by
  subst hcs
  exact OW_buildS ho hv hx hm hk hc0 hn0 hn1 hdst hd
end
end Go.Proofs.YtgimodceldoniaaGreatDoor
namespace Go.Proofs.YtgimodceldoniaaGreatDoor
open Go.RowKit
def gkM (kind time : Int) (nb ne : Nat) : MV := { MV.none with kind := kind, time := time, bins := List.replicate nb [zI], ents := List.replicate ne zEnt }
theorem gkM_ok {kind time : Int} {nb ne : Nat} (h1 : i64r kind) (h2 : i64r time) : (gkM kind time nb ne).Ok := by
  have N := MV.none_ok
  refine ⟨h1, N.ver, N.rc, h2, N.num, N.ch, fun vs hv => ?_, N.ct, N.kh, fun vs hv => ?_⟩
  · rw [List.eq_of_mem_replicate hv]; exact ⟨oks_zI, trivial⟩
  · rw [List.eq_of_mem_replicate hv]; exact zEnt_ok
structure KIt where
  g : GV
  a : Option Addr
  cap : Nat
  a' : Option Addr
  cap' : Nat
  e : Int
def KIt.cells (x : KIt) : List Value := x.g.cells x.a x.cap x.a' x.cap' ++ [.int .i64 x.e]
def kIts (b1 b2 b3 b4 b5 : Nat) : List KIt := [⟨⟨1, 2, true, 5, 3, gkM (0) (0) 0 0⟩, none, 0, none, 0, 0⟩, ⟨⟨1, 2, false, 300, 0, gkM (1) (10) 0 0⟩, none, 0, none, 0, 0⟩, ⟨⟨65535, 99, true, 18446744073709551615, 16, gkM (0) (0) 0 0⟩, none, 0, none, 0, 0⟩, ⟨⟨65536, 0, false, 0, 0, gkM (0) (0) 0 0⟩, none, 0, none, 0, 2⟩, ⟨⟨-1, 0, false, 0, 0, gkM (0) (0) 0 0⟩, none, 0, none, 0, 2⟩, ⟨⟨0, 100, false, 0, 0, gkM (0) (0) 0 0⟩, none, 0, none, 0, 2⟩, ⟨⟨0, -1, false, 0, 0, gkM (0) (0) 0 0⟩, none, 0, none, 0, 2⟩, ⟨⟨0, 0, true, 0, 17, gkM (0) (0) 0 0⟩, none, 0, none, 0, 2⟩, ⟨⟨0, 0, true, 0, -1, gkM (0) (0) 0 0⟩, none, 0, none, 0, 2⟩, ⟨⟨0, 0, false, 0, 99, gkM (0) (0) 0 0⟩, none, 0, none, 0, 0⟩, ⟨⟨0, 0, false, 0, 0, gkM (5) (0) 0 0⟩, none, 0, none, 0, 6⟩, ⟨⟨0, 0, false, 0, 0, gkM (-1) (0) 0 0⟩, none, 0, none, 0, 6⟩, ⟨⟨0, 0, true, 0, 0, gkM (9) (0) 0 0⟩, none, 0, none, 0, 0⟩, ⟨⟨0, 0, false, 0, 0, gkM (3) (0) 9 0⟩, some ⟨b1, 0, none⟩, 9, none, 0, 4⟩, ⟨⟨0, 0, false, 0, 0, gkM (3) (0) 8 0⟩, some ⟨b2, 0, none⟩, 8, none, 0, 0⟩, ⟨⟨0, 0, false, 0, 0, gkM (0) (0) 9 0⟩, some ⟨b3, 0, none⟩, 9, none, 0, 0⟩, ⟨⟨0, 0, false, 0, 0, gkM (4) (0) 0 65⟩, none, 0, some ⟨b4, 0, none⟩, 65, 4⟩, ⟨⟨0, 0, false, 0, 0, gkM (4) (0) 0 64⟩, none, 0, some ⟨b5, 0, none⟩, 64, 0⟩]
theorem made_elems {L : List (Nat × Obj)} {b i n sz : Nat} {E : TypeId} {z : List Value} (hi : L[i]? = some (b, .cells (madeCells z.toArray (n * sz)) E (0, 0))) (hz : z.length = sz) : Elems L (some ⟨b, 0, none⟩) sz (List.replicate n z) := by
  refine .inr ⟨b, 0, i, _, E, (0, 0), rfl, hi, fun j vs hj => ⟨fun k v hk => ?_, Free.zero _ _⟩⟩
  have hjn : j < n := by
    have := (List.getElem?_eq_some_iff.1 hj).1
    simpa using this
  have hv : vs = z := List.eq_of_mem_replicate (List.mem_of_getElem? hj)
  subst hv
  rw [Nat.zero_add]
  exact madeCells_at (by simpa using hz) hjn (by simpa using hk)
structure KOk (L : List (Nat × Obj)) (x : KIt) : Prop where
  at_ : GramAt L (x.g.cells x.a x.cap x.a' x.cap').toArray x.g x.a x.cap x.a' x.cap'
  nb : x.g.m.bins.length ≤ 1000
  ne : x.g.m.ents.length ≤ 1000
  err : ((x.g.put.2 : Nat) : Int) = x.e
theorem GV.put_none (g : GV) : ((g.put.1 == ([] : List UInt8)) != (((g.put.2 : Nat) : Int) != 0)) = false := by
  have hh : ∀ t : List UInt8, ((g.head ++ t) == ([] : List UInt8)) = false := fun t => by
    rw [beq_eq_false_iff_ne]
    intro e
    have e2 := (List.append_eq_nil_iff.1 e).1
    unfold GV.head at e2
    have e3 := (List.append_eq_nil_iff.1 (List.append_eq_nil_iff.1 e2).1).2
    revert e3
    cases g.ack <;> simp [encB]
  have key : ∀ p : List UInt8 × Nat, ((p.1 = [] ∧ p.2 ≠ 0) ∨ (∃ t, p.1 = g.head ++ t) ∧ p.2 = 0) → ((p.1 == ([] : List UInt8)) != (((p.2 : Nat) : Int) != 0)) = false := by
    rintro p (⟨h1, h2⟩ | ⟨⟨t, h1⟩, h2⟩)
    · have h3 : (((p.2 : Nat) : Int) != 0) = true := by simp only [bne_iff_ne, ne_eq]; omega
      rw [h1, h3]; rfl
    · rw [h1, hh t, h2]; rfl
  refine key _ ?_
  unfold GV.put
  repeat' split
  all_goals first | exact .inl ⟨rfl, by decide⟩ | exact .inr ⟨⟨_, rfl⟩, rfl⟩
set_option maxRecDepth 100000 in
theorem kIts_ok {L : List (Nat × Obj)} {b1 b2 b3 b4 b5 i1 i2 i3 i4 i5 : Nat} (h1 : L[i1]? = some (b1, .cells (madeCells #[zI] (9 * 1)) 3 (0, 0))) (h2 : L[i2]? = some (b2, .cells (madeCells #[zI] (8 * 1)) 3 (0, 0))) (h3 : L[i3]? = some (b3, .cells (madeCells #[zI] (9 * 1)) 3 (0, 0)))
    (h4 : L[i4]? = some (b4, .cells (madeCells zEnt.toArray (65 * 10)) 157 (0, 0))) (h5 : L[i5]? = some (b5, .cells (madeCells zEnt.toArray (64 * 10)) 157 (0, 0))) : ∀ x ∈ kIts b1 b2 b3 b4 b5, KOk L x := by
  have e1 := made_elems (z := [zI]) h1 rfl
  have e2 := made_elems (z := [zI]) h2 rfl
  have e3 := made_elems (z := [zI]) h3 rfl
  have e4 := made_elems (z := zEnt) h4 rfl
  have e5 := made_elems (z := zEnt) h5 rfl
  intro x hx
  simp only [kIts, List.mem_cons, List.not_mem_nil, or_false] at hx
  rcases hx with rfl | rfl | rfl | rfl | rfl | rfl | rfl | rfl | rfl | rfl | rfl | rfl | rfl | rfl | rfl | rfl | rfl | rfl
  all_goals refine ⟨⟨⟨⟨(by first | decide | (dsimp only; decide)), (by first | decide | (dsimp only; decide))⟩, ⟨(by first | decide | (dsimp only; decide)), (by first | decide | (dsimp only; decide))⟩, (by first | decide | (dsimp only; decide)), (by first | decide | (dsimp only; decide)), ⟨(by first | decide | (dsimp only; decide)), (by first | decide | (dsimp only; decide))⟩, gkM_ok ⟨(by first | decide | (dsimp only; decide)), (by first | decide | (dsimp only; decide))⟩ ⟨(by first | decide | (dsimp only; decide)), (by first | decide | (dsimp only; decide))⟩⟩, rfl, ?_, ?_, (by first | decide | (dsimp only; decide)), (by first | decide | (dsimp only; decide)), (by first | decide | (dsimp only; decide)), (by first | decide | (dsimp only; decide))⟩, (by first | decide | (dsimp only; decide)), (by first | decide | (dsimp only; decide)), by kernel_rfl⟩
  all_goals first | exact .inl rfl | exact e1 | exact e2 | exact e3 | exact e4 | exact e5
theorem kit_len (b1 b2 b3 b4 b5 : Nat) : ∀ x ∈ kIts b1 b2 b3 b4 b5, x.cells.length = 30 := by
  intro x hx
  simp only [kIts, List.mem_cons, List.not_mem_nil, or_false] at hx
  rcases hx with rfl | rfl | rfl | rfl | rfl | rfl | rfl | rfl | rfl | rfl | rfl | rfl | rfl | rfl | rfl | rfl | rfl | rfl
  all_goals rfl
theorem flat_at {α : Type} {f : α → List Value} {n : Nat} : ∀ {xs : List α} {i : Nat} {x : α}, (∀ x ∈ xs, (f x).length = n) → xs[i]? = some x → ((xs.flatMap f).drop (i * n)).take n = f x
  | [], i, x, _, h => by simp at h
  | y :: ys, 0, x, hl, h => by
    cases h
    rw [Nat.zero_mul, List.drop_zero, List.flatMap_cons, List.take_append_of_le_length (by rw [hl _ (List.mem_cons_self ..)]; exact Nat.le_refl _), List.take_of_length_le (by rw [hl _ (List.mem_cons_self ..)]; exact Nat.le_refl _)]
  | y :: ys, i + 1, x, hl, h => by
    have ih := flat_at (xs := ys) (i := i) (x := x) (fun x hx => hl x (List.mem_cons_of_mem _ hx)) h
    have hy := hl y (List.mem_cons_self ..)
    rw [List.flatMap_cons, Nat.succ_mul, List.drop_append, List.drop_eq_nil_of_le (by omega), List.nil_append, show i * n + n - (f y).length = i * n by omega]
    exact ih
end Go.Proofs.YtgimodceldoniaaGreatDoor
namespace Go.Proofs.YtgimodceldoniaaGreatDoor
open Go.RowKit
namespace W18
noncomputable def xf4 : XF := ⟨Tryz.f4, (Tryz.f4.body).getD .skip, T.ofList [], 5471⟩
theorem xf4_ok : GoodF Tryz.prog 4 xf4 := ⟨Tryz.func4, by kernel_rfl, inferInstance, by kernel_rfl⟩
noncomputable def xf5 : XF := ⟨Tryz.f5, (Tryz.f5.body).getD .skip, T.ofList [], 1⟩
theorem xf5_ok : GoodF Tryz.prog 5 xf5 := ⟨Tryz.func5, by kernel_rfl, inferInstance, by kernel_rfl⟩
noncomputable def xf6 : XF := ⟨Tryz.f6, (Tryz.f6.body).getD .skip, T.ofList [], 1⟩
theorem xf6_ok : GoodF Tryz.prog 6 xf6 := ⟨Tryz.func6, by kernel_rfl, inferInstance, by kernel_rfl⟩
noncomputable def xf7 : XF := ⟨Tryz.f7, (Tryz.f7.body).getD .skip, T.ofList [(7, (15, Cs [0,1,2,4,5,6,8,9,11,12] <| .must 3 <| .must 7 <| .must 10 <| .must 13 <| .calm 14 <| .done))], 292742771909329135⟩
theorem xf7_ok : GoodF Tryz.prog 7 xf7 := ⟨Tryz.func7, by kernel_rfl, inferInstance, by kernel_rfl⟩
noncomputable def xf8 : XF := ⟨Tryz.f8, (Tryz.f8.body).getD .skip, T.ofList [(4, (14, Cs [0,1,3,4,6,7,8,9,10,13] <| .must 2 <| .must 5 <| .must 11 <| .calm 12 <| .done)), (9, (0, .either 0 (.either 1 (.either 2 (.must 3 <| .must 4 <| .done) 3 (.must 2 <| .must 4 <| .done)) 3 (.must 1 <| .must 2 <| .must 4 <| .done)) 1 (.either 0 (.either 2 (.must 3 <| .must 4 <| .done) 3 (.must 2 <| .must 4 <| .done)) 2 (.must 0 <| .must 3 <| .must 4 <| .done))))], 8841593725⟩
theorem xf8_ok : GoodF Tryz.prog 8 xf8 := ⟨Tryz.func8, by kernel_rfl, inferInstance, by kernel_rfl⟩
noncomputable def xf9 : XF := ⟨Tryz.f9, (Tryz.f9.body).getD .skip, T.ofList [(4, (18, Cs [0,1] <| .must 2 <| Cs [3,7] <| .must 4 <| .calm 5 <| .must 6 <| Cs [8,9,10,11,12,13,14] <| .must 15 <| Cs [16,17] <| .done))], 315⟩
theorem xf9_ok : GoodF Tryz.prog 9 xf9 := ⟨Tryz.func9, by kernel_rfl, inferInstance, by kernel_rfl⟩
noncomputable def xf11 : XF := ⟨Tryz.f11, (Tryz.f11.body).getD .skip, T.ofList [], 7⟩
theorem xf11_ok : GoodF Tryz.prog 11 xf11 := ⟨Tryz.func11, by kernel_rfl, inferInstance, by kernel_rfl⟩
noncomputable def xf12 : XF := ⟨Tryz.f12, (Tryz.f12.body).getD .skip, T.ofList [(9, (10, Cs [0,1,2,3,4,5,6,7] <| .must 8 <| .calm 9 <| .done))], 32883⟩
theorem xf12_ok : GoodF Tryz.prog 12 xf12 := ⟨Tryz.func12, by kernel_rfl, inferInstance, by kernel_rfl⟩
noncomputable def xf13 : XF := ⟨Tryz.f13, (Tryz.f13.body).getD .skip, T.ofList [], 51⟩
theorem xf13_ok : GoodF Tryz.prog 13 xf13 := ⟨Tryz.func13, by kernel_rfl, inferInstance, by kernel_rfl⟩
noncomputable def xf14 : XF := ⟨Tryz.f14, (Tryz.f14.body).getD .skip, T.ofList [], 27⟩
theorem xf14_ok : GoodF Tryz.prog 14 xf14 := ⟨Tryz.func14, by kernel_rfl, inferInstance, by kernel_rfl⟩
noncomputable def xf15 : XF := ⟨Tryz.f15, (Tryz.f15.body).getD .skip, T.ofList [], 5⟩
theorem xf15_ok : GoodF Tryz.prog 15 xf15 := ⟨Tryz.func15, by kernel_rfl, inferInstance, by kernel_rfl⟩
noncomputable def xf16 : XF := ⟨Tryz.f16, (Tryz.f16.body).getD .skip, T.ofList [], 23⟩
theorem xf16_ok : GoodF Tryz.prog 16 xf16 := ⟨Tryz.func16, by kernel_rfl, inferInstance, by kernel_rfl⟩
noncomputable def xf17 : XF := ⟨Tryz.f17, (Tryz.f17.body).getD .skip, T.ofList [], 127⟩
theorem xf17_ok : GoodF Tryz.prog 17 xf17 := ⟨Tryz.func17, by kernel_rfl, inferInstance, by kernel_rfl⟩
noncomputable def xf18 : XF := ⟨Tryz.f18, (Tryz.f18.body).getD .skip, T.ofList [], 13⟩
theorem xf18_ok : GoodF Tryz.prog 18 xf18 := ⟨Tryz.func18, by kernel_rfl, inferInstance, by kernel_rfl⟩
noncomputable def xf19 : XF := ⟨Tryz.f19, (Tryz.f19.body).getD .skip, T.ofList [], 7⟩
theorem xf19_ok : GoodF Tryz.prog 19 xf19 := ⟨Tryz.func19, by kernel_rfl, inferInstance, by kernel_rfl⟩
noncomputable def xf20 : XF := ⟨Tryz.f20, (Tryz.f20.body).getD .skip, T.ofList [(2, (13, Cs [0,2,3,4,5,6,7,8,9,10,11] <| .must 1 <| .must 12 <| .done)), (3, (12, Cs [0,1,2,3,4,5,6,7,8,9,10] <| .must 11 <| .done)), (5, (12, Cs [0,1,2,3,4,5,6,7,8,9,10,11] <| .must 12 <| .done))], 13⟩
theorem xf20_ok : GoodF Tryz.prog 20 xf20 := ⟨Tryz.func20, by kernel_rfl, inferInstance, by kernel_rfl⟩
noncomputable def xf21 : XF := ⟨Tryz.f21, (Tryz.f21.body).getD .skip, T.ofList [], 7⟩
theorem xf21_ok : GoodF Tryz.prog 21 xf21 := ⟨Tryz.func21, by kernel_rfl, inferInstance, by kernel_rfl⟩
noncomputable def xf22 : XF := ⟨Tryz.f22, (Tryz.f22.body).getD .skip, T.ofList [], 61⟩
theorem xf22_ok : GoodF Tryz.prog 22 xf22 := ⟨Tryz.func22, by kernel_rfl, inferInstance, by kernel_rfl⟩
noncomputable def xf23 : XF := ⟨Tryz.f23, (Tryz.f23.body).getD .skip, T.ofList [(2, (13, Cs [0,2,3,4,5,6,7,8,9,10,11] <| .must 1 <| .must 12 <| .done))], 5⟩
theorem xf23_ok : GoodF Tryz.prog 23 xf23 := ⟨Tryz.func23, by kernel_rfl, inferInstance, by kernel_rfl⟩
noncomputable def xf24 : XF := ⟨Tryz.f24, (Tryz.f24.body).getD .skip, T.ofList [], 34368129779⟩
theorem xf24_ok : GoodF Tryz.prog 24 xf24 := ⟨Tryz.func24, by kernel_rfl, inferInstance, by kernel_rfl⟩
noncomputable def xf25 : XF := ⟨Tryz.f25, (Tryz.f25.body).getD .skip, T.ofList [], 2099⟩
theorem xf25_ok : GoodF Tryz.prog 25 xf25 := ⟨Tryz.func25, by kernel_rfl, inferInstance, by kernel_rfl⟩
noncomputable def xf27 : XF := ⟨Tryz.f27, (Tryz.f27.body).getD .skip, T.ofList [], 215⟩
theorem xf27_ok : GoodF Tryz.prog 27 xf27 := ⟨Tryz.func27, by kernel_rfl, inferInstance, by kernel_rfl⟩
noncomputable def xf28 : XF := ⟨Tryz.f28, (Tryz.f28.body).getD .skip, T.ofList [(2, (17, Cs [0,1,2,3,4,5,6,7,8,9,10,11,12,13,14,15] <| .must 16 <| .done)), (8, (8, Cs [0,1,2,3,4,5,6] <| .must 7 <| .done))], 297471780385420476419⟩
theorem xf28_ok : GoodF Tryz.prog 28 xf28 := ⟨Tryz.func28, by kernel_rfl, inferInstance, by kernel_rfl⟩
noncomputable def xf29 : XF := ⟨Tryz.f29, (Tryz.f29.body).getD .skip, T.ofList [], 1048703⟩
theorem xf29_ok : GoodF Tryz.prog 29 xf29 := ⟨Tryz.func29, by kernel_rfl, inferInstance, by kernel_rfl⟩
noncomputable def xf30 : XF := ⟨Tryz.f30, (Tryz.f30.body).getD .skip, T.ofList [], 21⟩
theorem xf30_ok : GoodF Tryz.prog 30 xf30 := ⟨Tryz.func30, by kernel_rfl, inferInstance, by kernel_rfl⟩
noncomputable def xf31 : XF := ⟨Tryz.f31, (Tryz.f31.body).getD .skip, T.ofList [], 51⟩
theorem xf31_ok : GoodF Tryz.prog 31 xf31 := ⟨Tryz.func31, by kernel_rfl, inferInstance, by kernel_rfl⟩
noncomputable def xf32 : XF := ⟨Tryz.f32, (Tryz.f32.body).getD .skip, T.ofList [], 16541⟩
theorem xf32_ok : GoodF Tryz.prog 32 xf32 := ⟨Tryz.func32, by kernel_rfl, inferInstance, by kernel_rfl⟩
noncomputable def xf33 : XF := ⟨Tryz.f33, (Tryz.f33.body).getD .skip, T.ofList [], 21⟩
theorem xf33_ok : GoodF Tryz.prog 33 xf33 := ⟨Tryz.func33, by kernel_rfl, inferInstance, by kernel_rfl⟩
noncomputable def xf34 : XF := ⟨Tryz.f34, (Tryz.f34.body).getD .skip, T.ofList [], 135⟩
theorem xf34_ok : GoodF Tryz.prog 34 xf34 := ⟨Tryz.func34, by kernel_rfl, inferInstance, by kernel_rfl⟩
noncomputable def xf35 : XF := ⟨Tryz.f35, (Tryz.f35.body).getD .skip, T.ofList [(5, (12, Cs [0,1,2,3,4,5,6,7,8,9,10] <| .must 11 <| .done)), (8, (20, Cs [0,1,2,3,4,5,6,7,8,9,10,11,12,13,14,15,16,17,18] <| .must 19 <| .done)), (9, (13, Cs [0,1,2,3,4,5,6,7,8,9,12] <| .must 10 <| .calm 11 <| .done))], 4642275147320176030938824797⟩
theorem xf35_ok : GoodF Tryz.prog 35 xf35 := ⟨Tryz.func35, by kernel_rfl, inferInstance, by kernel_rfl⟩
noncomputable def xf39 : XF := ⟨Tryz.f39, (Tryz.f39.body).getD .skip, T.ofList [], 1193287703199244111⟩
theorem xf39_ok : GoodF Tryz.prog 39 xf39 := ⟨Tryz.func39, by kernel_rfl, inferInstance, by kernel_rfl⟩
noncomputable def xf41 : XF := ⟨Tryz.f41, (Tryz.f41.body).getD .skip, T.ofList [], 4639143427053511⟩
theorem xf41_ok : GoodF Tryz.prog 41 xf41 := ⟨Tryz.func41, by kernel_rfl, inferInstance, by kernel_rfl⟩
noncomputable def xf44 : XF := ⟨Tryz.f44, (Tryz.f44.body).getD .skip, T.ofList [], 19⟩
theorem xf44_ok : GoodF Tryz.prog 44 xf44 := ⟨Tryz.func44, by kernel_rfl, inferInstance, by kernel_rfl⟩
noncomputable def xf45 : XF := ⟨Tryz.f45, (Tryz.f45.body).getD .skip, T.ofList [(1, (8, Cs [0,1,2,3,4,5,6] <| .must 7 <| .done)), (2, (8, Cs [0,1,2,3,4,5,6] <| .must 7 <| .done)), (3, (8, Cs [0,1,2,3,4,5,6] <| .must 7 <| .done)), (4, (8, Cs [0,1,2,3,4,5,6] <| .must 7 <| .done)), (5, (8, Cs [0,1,2,3,4,5,6] <| .must 7 <| .done))], 3⟩
theorem xf45_ok : GoodF Tryz.prog 45 xf45 := ⟨Tryz.func45, by kernel_rfl, inferInstance, by kernel_rfl⟩
noncomputable def xf46 : XF := ⟨Tryz.f46, (Tryz.f46.body).getD .skip, T.ofList [(1, (8, Cs [0,1,2,3,4,5,6] <| .must 7 <| .done))], 3⟩
theorem xf46_ok : GoodF Tryz.prog 46 xf46 := ⟨Tryz.func46, by kernel_rfl, inferInstance, by kernel_rfl⟩
noncomputable def xf47 : XF := ⟨Tryz.f47, (Tryz.f47.body).getD .skip, T.ofList [(2, (8, Cs [0,1,2,3,4,5,6] <| .must 7 <| .done))], 3⟩
theorem xf47_ok : GoodF Tryz.prog 47 xf47 := ⟨Tryz.func47, by kernel_rfl, inferInstance, by kernel_rfl⟩
noncomputable def xf48 : XF := ⟨Tryz.f48, (Tryz.f48.body).getD .skip, T.ofList [], 3451⟩
theorem xf48_ok : GoodF Tryz.prog 48 xf48 := ⟨Tryz.func48, by kernel_rfl, inferInstance, by kernel_rfl⟩
noncomputable def xf53 : XF := ⟨Tryz.f53, (Tryz.f53.body).getD .skip, T.ofList [], 19⟩
theorem xf53_ok : GoodF Tryz.prog 53 xf53 := ⟨Tryz.func53, by kernel_rfl, inferInstance, by kernel_rfl⟩
noncomputable def xf54 : XF := ⟨Tryz.f54, (Tryz.f54.body).getD .skip, T.ofList [], 69189240591⟩
theorem xf54_ok : GoodF Tryz.prog 54 xf54 := ⟨Tryz.func54, by kernel_rfl, inferInstance, by kernel_rfl⟩
noncomputable def xf55 : XF := ⟨Tryz.f55, (Tryz.f55.body).getD .skip, T.ofList [(1, (8, Cs [0,1,2,3,4,5,6] <| .must 7 <| .done)), (2, (8, Cs [0,1,2,3,4,5,6] <| .must 7 <| .done))], 3⟩
theorem xf55_ok : GoodF Tryz.prog 55 xf55 := ⟨Tryz.func55, by kernel_rfl, inferInstance, by kernel_rfl⟩
noncomputable def xf56 : XF := ⟨Tryz.f56, (Tryz.f56.body).getD .skip, T.ofList [(9, (8, Cs [0,1,2,3,4] <| .must 5 <| .must 6 <| .calm 7 <| .must 8 <| .done))], 69189240591⟩
theorem xf56_ok : GoodF Tryz.prog 56 xf56 := ⟨Tryz.func56, by kernel_rfl, inferInstance, by kernel_rfl⟩
noncomputable def xf57 : XF := ⟨Tryz.f57, (Tryz.f57.body).getD .skip, T.ofList [(2, (8, Cs [0,1,2,3,4,5,6] <| .must 7 <| .done)), (3, (8, Cs [0,1,2,3,4,5,6] <| .must 7 <| .done)), (4, (8, Cs [0,1,2,3,4,5,6] <| .must 7 <| .done))], 3⟩
theorem xf57_ok : GoodF Tryz.prog 57 xf57 := ⟨Tryz.func57, by kernel_rfl, inferInstance, by kernel_rfl⟩
noncomputable def xf64 : XF := ⟨Tryz.f64, (Tryz.f64.body).getD .skip, T.ofList [(0, (8, Cs [0,1,2,3,4,5,6] <| .must 7 <| .done)), (1, (8, Cs [0,1,2,3,4,5,6] <| .must 7 <| .done)), (2, (8, Cs [0,1,2,3,4,5,6] <| .must 7 <| .done)), (3, (8, Cs [0,1,2,3,4,5,6] <| .must 7 <| .done)), (4, (8, Cs [0,1,2,3,4,5,6] <| .must 7 <| .done))], 3⟩
theorem xf64_ok : GoodF Tryz.prog 64 xf64 := ⟨Tryz.func64, by kernel_rfl, inferInstance, by kernel_rfl⟩
noncomputable def xf86 : XF := ⟨Tryz.f86, (Tryz.f86.body).getD .skip, T.ofList [], 5⟩
theorem xf86_ok : GoodF Tryz.prog 86 xf86 := ⟨Tryz.func86, by kernel_rfl, inferInstance, by kernel_rfl⟩
noncomputable def xf90 : XF := ⟨Tryz.f90, (Tryz.f90.body).getD .skip, T.ofList [], 1⟩
theorem xf90_ok : GoodF Tryz.prog 90 xf90 := ⟨Tryz.func90, by kernel_rfl, inferInstance, by kernel_rfl⟩
noncomputable def xf91 : XF := ⟨Tryz.f91, (Tryz.f91.body).getD .skip, T.ofList [], 7⟩
theorem xf91_ok : GoodF Tryz.prog 91 xf91 := ⟨Tryz.func91, by kernel_rfl, inferInstance, by kernel_rfl⟩
noncomputable def xf92 : XF := ⟨Tryz.f92, (Tryz.f92.body).getD .skip, T.ofList [(0, (11, Cs [0,1,2,3,4,5,6,7] <| .must 8 <| Cs [9,10] <| .must 11 <| .done))], 3⟩
theorem xf92_ok : GoodF Tryz.prog 92 xf92 := ⟨Tryz.func92, by kernel_rfl, inferInstance, by kernel_rfl⟩
noncomputable def xf93 : XF := ⟨Tryz.f93, (Tryz.f93.body).getD .skip, T.ofList [(0, (12, Cs [0,1,2,3,4,5,6,7] <| .must 8 <| .must 9 <| Cs [10,11] <| .must 12 <| .done))], 3⟩
theorem xf93_ok : GoodF Tryz.prog 93 xf93 := ⟨Tryz.func93, by kernel_rfl, inferInstance, by kernel_rfl⟩
noncomputable def xf94 : XF := ⟨Tryz.f94, (Tryz.f94.body).getD .skip, T.ofList [(0, (11, Cs [0,1,2,3,4,5,6,7] <| .must 8 <| Cs [9,10] <| .must 11 <| .done))], 3⟩
theorem xf94_ok : GoodF Tryz.prog 94 xf94 := ⟨Tryz.func94, by kernel_rfl, inferInstance, by kernel_rfl⟩
noncomputable def xf95 : XF := ⟨Tryz.f95, (Tryz.f95.body).getD .skip, T.ofList [(0, (11, Cs [0,1,2,3,4,5,6,7] <| .must 8 <| Cs [9,10] <| .must 11 <| .done))], 3⟩
theorem xf95_ok : GoodF Tryz.prog 95 xf95 := ⟨Tryz.func95, by kernel_rfl, inferInstance, by kernel_rfl⟩
noncomputable def xf96 : XF := ⟨Tryz.f96, (Tryz.f96.body).getD .skip, T.ofList [], 19⟩
theorem xf96_ok : GoodF Tryz.prog 96 xf96 := ⟨Tryz.func96, by kernel_rfl, inferInstance, by kernel_rfl⟩
noncomputable def xf97 : XF := ⟨Tryz.f97, (Tryz.f97.body).getD .skip, T.ofList [], 1⟩
theorem xf97_ok : GoodF Tryz.prog 97 xf97 := ⟨Tryz.func97, by kernel_rfl, inferInstance, by kernel_rfl⟩
noncomputable def xf98 : XF := ⟨Tryz.f98, (Tryz.f98.body).getD .skip, T.ofList [], 135⟩
theorem xf98_ok : GoodF Tryz.prog 98 xf98 := ⟨Tryz.func98, by kernel_rfl, inferInstance, by kernel_rfl⟩
noncomputable def xf99 : XF := ⟨Tryz.f99, (Tryz.f99.body).getD .skip, T.ofList [], 3⟩
theorem xf99_ok : GoodF Tryz.prog 99 xf99 := ⟨Tryz.func99, by kernel_rfl, inferInstance, by kernel_rfl⟩
noncomputable def xf100 : XF := ⟨Tryz.f100, (Tryz.f100.body).getD .skip, T.ofList [], 3⟩
theorem xf100_ok : GoodF Tryz.prog 100 xf100 := ⟨Tryz.func100, by kernel_rfl, inferInstance, by kernel_rfl⟩
noncomputable def xf101 : XF := ⟨Tryz.f101, (Tryz.f101.body).getD .skip, T.ofList [], 3⟩
theorem xf101_ok : GoodF Tryz.prog 101 xf101 := ⟨Tryz.func101, by kernel_rfl, inferInstance, by kernel_rfl⟩
noncomputable def xf102 : XF := ⟨Tryz.f102, (Tryz.f102.body).getD .skip, T.ofList [], 3⟩
theorem xf102_ok : GoodF Tryz.prog 102 xf102 := ⟨Tryz.func102, by kernel_rfl, inferInstance, by kernel_rfl⟩
noncomputable def xf103 : XF := ⟨Tryz.f103, (Tryz.f103.body).getD .skip, T.ofList [], 4211⟩
theorem xf103_ok : GoodF Tryz.prog 103 xf103 := ⟨Tryz.func103, by kernel_rfl, inferInstance, by kernel_rfl⟩
noncomputable def xf104 : XF := ⟨Tryz.f104, (Tryz.f104.body).getD .skip, T.ofList [], 4211⟩
theorem xf104_ok : GoodF Tryz.prog 104 xf104 := ⟨Tryz.func104, by kernel_rfl, inferInstance, by kernel_rfl⟩
noncomputable def xf105 : XF := ⟨Tryz.f105, (Tryz.f105.body).getD .skip, T.ofList [(2, (13, Cs [0,2,3,4,5,6,7,8,9,10,11] <| .must 1 <| .must 12 <| .done)), (4, (11, Cs [0,1,2,3,4,5,6,7,8,9,10] <| .must 11 <| .done))], 13⟩
theorem xf105_ok : GoodF Tryz.prog 105 xf105 := ⟨Tryz.func105, by kernel_rfl, inferInstance, by kernel_rfl⟩
noncomputable def xf106 : XF := ⟨Tryz.f106, (Tryz.f106.body).getD .skip, T.ofList [], 4211⟩
theorem xf106_ok : GoodF Tryz.prog 106 xf106 := ⟨Tryz.func106, by kernel_rfl, inferInstance, by kernel_rfl⟩
noncomputable def xf107 : XF := ⟨Tryz.f107, (Tryz.f107.body).getD .skip, T.ofList [], 4211⟩
theorem xf107_ok : GoodF Tryz.prog 107 xf107 := ⟨Tryz.func107, by kernel_rfl, inferInstance, by kernel_rfl⟩
noncomputable def xf108 : XF := ⟨Tryz.f108, (Tryz.f108.body).getD .skip, T.ofList [], 61⟩
theorem xf108_ok : GoodF Tryz.prog 108 xf108 := ⟨Tryz.func108, by kernel_rfl, inferInstance, by kernel_rfl⟩
noncomputable def tabL : List (Nat × XF) := [(4, xf4), (5, xf5), (6, xf6), (7, xf7), (8, xf8), (9, xf9), (11, xf11), (12, xf12), (13, xf13), (14, xf14), (15, xf15), (16, xf16), (17, xf17), (18, xf18), (19, xf19), (20, xf20), (21, xf21), (22, xf22), (23, xf23), (24, xf24), (25, xf25), (27, xf27), (28, xf28), (29, xf29), (30, xf30), (31, xf31), (32, xf32), (33, xf33), (34, xf34), (35, xf35), (39, xf39), (41, xf41), (44, xf44), (45, xf45), (46, xf46), (47, xf47), (48, xf48), (53, xf53), (54, xf54), (55, xf55), (56, xf56), (57, xf57), (64, xf64), (86, xf86), (90, xf90), (91, xf91), (92, xf92), (93, xf93), (94, xf94), (95, xf95), (96, xf96), (97, xf97), (98, xf98), (99, xf99), (100, xf100), (101, xf101), (102, xf102), (103, xf103), (104, xf104), (105, xf105), (106, xf106), (107, xf107), (108, xf108)]
noncomputable def tab : T XF := T.ofList tabL
theorem tab_ok : ∀ f x, tab.get f = some x → GoodF Tryz.prog f x := fun f x h => GoodL.mem (l := tabL) ⟨xf4_ok, xf5_ok, xf6_ok, xf7_ok, xf8_ok, xf9_ok, xf11_ok, xf12_ok, xf13_ok, xf14_ok, xf15_ok, xf16_ok, xf17_ok, xf18_ok, xf19_ok, xf20_ok, xf21_ok, xf22_ok, xf23_ok, xf24_ok, xf25_ok, xf27_ok, xf28_ok, xf29_ok, xf30_ok, xf31_ok, xf32_ok, xf33_ok, xf34_ok, xf35_ok, xf39_ok, xf41_ok, xf44_ok, xf45_ok, xf46_ok, xf47_ok, xf48_ok, xf53_ok, xf54_ok, xf55_ok, xf56_ok, xf57_ok, xf64_ok, xf86_ok, xf90_ok, xf91_ok, xf92_ok, xf93_ok, xf94_ok, xf95_ok, xf96_ok, xf97_ok, xf98_ok, xf99_ok, xf100_ok, xf101_ok, xf102_ok, xf103_ok, xf104_ok, xf105_ok, xf106_ok, xf107_ok, xf108_ok, trivial⟩ (f, x) (T.get_ofList h)
theorem works_run : trueG Tryz.prog tab 100000 doorPr doorH 200 4 = true := by kernel_rfl
end W18
theorem works18_fn {L : List (Nat × Obj)} (h : HandleIn L) : Fn Tryz.prog 4 [] L (fun v L' => v = .bool true ∧ L' = L) := by
  obtain ⟨cs, E, fr, h1, h2⟩ := h
  exact runD doorPr_ok mixed W18.tab_ok (doorH_cov h2) doorH_zero W18.works_run h1
end Go.Proofs.YtgimodceldoniaaGreatDoor
namespace Go.Proofs.YtgimodceldoniaaGreatDoor
open Go.RowKit
section
variable {c : Cx} {ops : Array Oper}
theorem WS_c {K : Exit → St → Prop} {Ls L0 : List (Nat × Obj)} {m i : Nat} {ms : List Nat} {fr : Bool} {p : Plan} {op : Op} {d ty : Nat} {pos : String} {aft : Array Edge} {s : List (Nat × Value)} {D : List Deferred} {L : List (Nat × Obj)} (ho : ops[i]? = some ⟨some d, op, ty, pos, aft, none⟩)
    (h : QW c s Ls ⟨some d, op, ty, pos, aft, none⟩ fun v => WS c ops K Ls L0 m ms fr p ⟨(d, v) :: s, D, L⟩) (hd : Nat.blt d c.N = true := by exact rfl) : WS c ops K Ls L0 m ms fr (.calm i p) ⟨s, D, L⟩ :=
  let ⟨v, h1, h2⟩ := h; ⟨_, v, Ls, ho, hd, .inl rfl, .inl ⟨h1, rfl⟩, h2⟩
theorem WS_m {K : Exit → St → Prop} {Ls L0 : List (Nat × Obj)} {m i : Nat} {ms : List Nat} {fr : Bool} {p : Plan} {σ : St} {o : Oper} (ho : ops[i]? = some o) (hg : o.guard = none) (h : OW c o (fun σ' => (∀ q ∈ Ls, q ∈ σ'.L) ∧ WS c ops K Ls L0 m ms false p σ') K σ) : WS c ops K Ls L0 m ms fr (.must i p) σ :=
  ⟨o, ho, .inl ⟨.inl hg, h.mono fun _ h' => ⟨fun _ => h'.1, h'.2⟩⟩⟩
theorem WS_d {K : Exit → St → Prop} {Ls L0 : List (Nat × Obj)} {m : Nat} {ms : List Nat} {fr : Bool} {σ : St} (h : K .normal σ) : WS c ops K Ls L0 m ms fr .done σ := h
end
end Go.Proofs.YtgimodceldoniaaGreatDoor
namespace Go.Proofs.YtgimodceldoniaaGreatDoor
open Go.RowKit
structure MkI where
  x : Nat
  d : Nat
  c : Nat
  v : Nat → Value
  o : Nat → List (Nat × Obj)
def slA (A : Nat → Bool) (b : Nat → Nat) : List MkI → List (Nat × Value)
  | [] => []
  | it :: r => bif A it.x then (it.d, it.v (b it.c)) :: slA A b r else slA A b r
def bkA (A : Nat → Bool) (b : Nat → Nat) : List MkI → List (Nat × Obj)
  | [] => []
  | it :: r => bif A it.x then it.o (b it.c) ++ bkA A b r else bkA A b r
theorem look_cons_eq (k : Nat) (v : Value) (r : List (Nat × Value)) : look ((k, v) :: r) k = some v := by rw [look_cons, if_pos rfl]
theorem look_cons_ne {k t : Nat} {v : Value} {r : List (Nat × Value)} (h : t ≠ k) : look ((k, v) :: r) t = look r t := by rw [look_cons, if_neg (Ne.symm h)]
theorem nodup_inj {α β : Type} {f : α → β} : ∀ {l : List α}, (l.map f).Nodup → ∀ {a b : α}, a ∈ l → b ∈ l → f a = f b → a = b
  | x :: r, hn, a, b, ha, hb, e => by
    rw [List.map_cons, List.nodup_cons] at hn
    rcases List.mem_cons.1 ha with ea | ha
    · rcases List.mem_cons.1 hb with eb | hb
      · rw [ea, eb]
      · exact absurd (List.mem_map.2 ⟨b, hb, by rw [← e, ea]⟩) hn.1
    · rcases List.mem_cons.1 hb with eb | hb
      · exact absurd (List.mem_map.2 ⟨a, ha, by rw [e, eb]⟩) hn.1
      · exact nodup_inj hn.2 ha hb e
def updA (b : Nat → Nat) (x n : Nat) : Nat → Nat := fun z => if z = x then n else b z
theorem updA_at (b : Nat → Nat) (x n : Nat) : updA b x n x = n := if_pos rfl
theorem updA_ne {b : Nat → Nat} {x n z : Nat} (h : z ≠ x) : updA b x n z = b z := if_neg h
theorem orA_ne {A : Nat → Bool} {x z : Nat} (h : z ≠ x) : (z == x || A z) = A z := by
  rw [beq_eq_false_iff_ne.2 h, Bool.false_or]
theorem bkA_other {A : Nat → Bool} {b b' : Nat → Nat} {x : Nat} : ∀ {its : List MkI}, x ∉ its.map MkI.x → (∀ j ∈ its, A j.x = true → b' j.c = b j.c) → bkA (fun z => z == x || A z) b' its = bkA A b its
  | [], _, _ => rfl
  | it :: r, h, hb => by
    rw [List.map_cons, List.mem_cons, not_or] at h
    have ih := bkA_other (A := A) (b := b) (b' := b') h.2 (fun j hj => hb j (List.mem_cons_of_mem _ hj))
    have h0 := hb it (List.mem_cons_self ..)
    simp only [bkA]
    rw [orA_ne (Ne.symm h.1), ih]
    cases hA : A it.x
    · rfl
    · rw [h0 hA]
theorem bkA_step {A : Nat → Bool} {b b' : Nat → Nat} {it : MkI} : ∀ {its : List MkI}, (its.map MkI.x).Nodup → it ∈ its → A it.x = false → (∀ j ∈ its, A j.x = true → b' j.c = b j.c) → (bkA (fun z => z == it.x || A z) b' its).Perm (it.o (b' it.c) ++ bkA A b its)
  | j :: r, hn, hi, hA, hb => by
    rw [List.map_cons, List.nodup_cons] at hn
    have hb' : ∀ j ∈ r, A j.x = true → b' j.c = b j.c := fun k hk => hb k (List.mem_cons_of_mem _ hk)
    rcases List.mem_cons.1 hi with rfl | hi
    · simp only [bkA]
      rw [bkA_other hn.1 hb', hA, beq_self_eq_true, Bool.true_or, cond_true, cond_false]
    · have hne : j.x ≠ it.x := fun e => hn.1 (e ▸ List.mem_map.2 ⟨it, hi, rfl⟩)
      have ih := bkA_step (A := A) (b := b) (b' := b') hn.2 hi hA hb'
      have h0 := hb j (List.mem_cons_self ..)
      simp only [bkA]
      rw [orA_ne hne]
      cases hAj : A j.x
      · exact ih
      · rw [cond_true, cond_true, h0 hAj]
        exact (List.Perm.append_left _ ih).trans (List.perm_append_comm_assoc ..)
theorem slA_mem {A : Nat → Bool} {b : Nat → Nat} {q : Nat × Value} : ∀ {its : List MkI}, q ∈ slA A b its → ∃ j ∈ its, A j.x = true ∧ q = (j.d, j.v (b j.c))
  | it :: r, h => by
    simp only [slA] at h
    cases hA : A it.x
    · rw [hA, cond_false] at h
      obtain ⟨j, h1, h2⟩ := slA_mem h
      exact ⟨j, List.mem_cons_of_mem _ h1, h2⟩
    · rw [hA, cond_true] at h
      rcases List.mem_cons.1 h with rfl | h
      · exact ⟨it, List.mem_cons_self .., hA, rfl⟩
      · obtain ⟨j, h1, h2⟩ := slA_mem h
        exact ⟨j, List.mem_cons_of_mem _ h1, h2⟩
theorem look_skip {l s : List (Nat × Value)} {t : Nat} (h : ∀ p ∈ l, p.1 ≠ t) : look (l ++ s) t = look s t := by
  induction l with
  | nil => rfl
  | cons p l ih =>
    have h1 := h p (List.mem_cons_self ..)
    have := ih fun q hq => h q (List.mem_cons_of_mem _ hq)
    rw [List.cons_append, look_cons_ne (Ne.symm h1)]
    exact this
theorem slA_look {A : Nat → Bool} {b : Nat → Nat} {s : List (Nat × Value)} {j : MkI} : ∀ {its : List MkI}, (its.map MkI.d).Nodup → j ∈ its → A j.x = true → look (slA A b its ++ s) j.d = some (j.v (b j.c))
  | it :: r, hn, hj, hA => by
    rw [List.map_cons, List.nodup_cons] at hn
    simp only [slA]
    rcases List.mem_cons.1 hj with rfl | hj
    · rw [hA, cond_true, List.cons_append, look_cons_eq]
    · have hne : it.d ≠ j.d := fun e => hn.1 (e ▸ List.mem_map.2 ⟨j, hj, rfl⟩)
      have ih := slA_look (A := A) (b := b) (s := s) hn.2 hj hA
      cases A it.x
      · exact ih
      · rw [cond_true, List.cons_append, look_cons_ne (Ne.symm hne)]; exact ih
theorem subS_of {s s' : List (Nat × Value)} (h : ∀ q ∈ s, look s' q.1 = some q.2) : SubS s s' := by
  induction s with
  | nil => trivial
  | cons q s ih => exact ⟨h q (List.mem_cons_self ..), ih fun p hp => h p (List.mem_cons_of_mem _ hp)⟩
theorem subS_mem : ∀ {s s' : List (Nat × Value)}, SubS s s' → ∀ q ∈ s, look s' q.1 = some q.2
  | _ :: _, _, h, q, hq => by
    rcases List.mem_cons.1 hq with rfl | hq
    · exact h.1
    · exact subS_mem h.2 q hq
theorem OW.norm {c : Cx} {o : Oper} {Kn : St → Prop} {K : Exit → St → Prop} {σ : St} (h : OW c o (fun σ' => ∃ σ2 : St, SubS σ2.s σ'.s ∧ σ2.D = σ'.D ∧ σ2.L.Perm σ'.L ∧ Kn σ2) K σ) : OW c o Kn K σ := fun a w ha =>
  Oper.wpIn_mono (fun _ _ ⟨σ', h1, σ2, h2, h3, h4, h5⟩ => by
    have h6 := (h1.mem' (h1.mem.perm h4)).weaken h2
    refine ⟨σ2, ?_, h5⟩
    have e : σ2 = ⟨σ2.s, σ'.D, σ2.L⟩ := by rw [← h3]
    rw [e]
    exact h6) (h a w ha)
theorem WS_group {c : Cx} {ops : Array Oper} {K : Exit → St → Prop} {Ls L0 : List (Nat × Obj)} {m : Nat} {ms : List Nat} {fr : Bool} {l : List (Nat × List Nat)} {p : Plan} {s : List (Nat × Value)} {D : List Deferred} {L : List (Nat × Obj)} (its : List MkI) (hl : l.map Prod.fst = its.map MkI.x)
    (hx : (its.map MkI.x).Nodup) (hd : (its.map MkI.d).Nodup) (hs : SubS s s) (hno : ∀ j ∈ its, look s j.d = none) (hLs : ∀ q ∈ Ls, q ∈ L)
    (hc : ∀ it ∈ its, it.c = it.x ∨ ∀ ds, (it.x, ds) ∈ l → it.c ∈ ds)
    (hop : ∀ it ∈ its, ∃ o, ops[it.x]? = some o ∧ o.guard = none ∧ ∀ ds (A : Nat → Bool) (b : Nat → Nat) (Kn : St → Prop), (it.x, ds) ∈ l → (∀ y ∈ ds, A y = true) → (∀ j ∈ its, A j.x = true → A j.c = true) → A it.x = false →
      (∀ b' : Nat → Nat, (∀ j ∈ its, A j.x = true → b' j.c = b j.c) → Kn ⟨(it.d, it.v (b' it.c)) :: (slA A b its ++ s), D, it.o (b' it.c) ++ (bkA A b its ++ L)⟩) → OW c o Kn K ⟨slA A b its ++ s, D, bkA A b its ++ L⟩)
    (hk : ∀ b : Nat → Nat, WS c ops K Ls L0 m ms false p ⟨its.map (fun it => (it.d, it.v (b it.c))) ++ s, D, its.flatMap (fun it => it.o (b it.c)) ++ L⟩) : WS c ops K Ls L0 m ms fr (.par l p) ⟨s, D, L⟩ := by
  have hsd : ∀ q ∈ s, ∀ j ∈ its, j.d ≠ q.1 := fun q hq j hj e => by
    have h := subS_mem hs q hq
    rw [← e, hno j hj] at h
    cases h
  refine ⟨fun A σ => (∀ j ∈ its, A j.x = true → A j.c = true) ∧ ∃ b, σ = ⟨slA A b its ++ s, D, bkA A b its ++ L⟩, ?_, ?_, ?_⟩
  · have e1 : ∀ its : List MkI, slA (fun _ => false) (fun _ => 0) its = [] := fun its => by
      induction its with
      | nil => rfl
      | cons it r ih => simp only [slA]; rw [cond_false, ih]
    have e2 : ∀ its : List MkI, bkA (fun _ => false) (fun _ => 0) its = [] := fun its => by
      induction its with
      | nil => rfl
      | cons it r ih => simp only [bkA]; rw [cond_false, ih]
    exact ⟨fun _ _ h => (by cases h), fun _ => 0, by rw [e1, e2]; rfl⟩
  · rintro A _ ⟨hcl, b, rfl⟩ x ds hxl hA hds
    obtain ⟨it, hit, rfl⟩ : ∃ it ∈ its, it.x = x := by
      have : x ∈ its.map MkI.x := hl ▸ List.mem_map.2 ⟨_, hxl, rfl⟩
      exact List.mem_map.1 this
    obtain ⟨o, ho, hg, h1⟩ := hop it hit
    refine ⟨o, ho, .inl ⟨.inl hg, OW.norm (h1 ds A b _ hxl hds hcl hA fun b' hb' => ?_)⟩⟩
    refine ⟨⟨slA (fun z => z == it.x || A z) b' its ++ s, D, bkA (fun z => z == it.x || A z) b' its ++ L⟩, subS_of fun q hq => ?_, rfl, (List.Perm.append_right L (bkA_step hx hit hA hb')).trans (.of_eq (List.append_assoc ..)), fun _ q hq => List.mem_append_right _ (hLs q hq), fun j hj hAj => ?_, b', rfl⟩
    · rcases List.mem_append.1 hq with hq | hq
      · obtain ⟨j, hj, hAj, rfl⟩ := slA_mem hq
        by_cases e : j = it
        · subst e
          show look ((j.d, _) :: _) j.d = _
          rw [look_cons_eq]
        · have hne : j.x ≠ it.x := fun h => e (nodup_inj hx hj hit h)
          have hdn : it.d ≠ j.d := fun h => e (nodup_inj hd hj hit h.symm)
          rw [orA_ne hne] at hAj
          show look ((it.d, _) :: _) j.d = _
          rw [look_cons_ne (Ne.symm hdn), hb' j hj hAj]
          exact slA_look hd hj hAj
      · show look ((it.d, _) :: (slA A b its ++ s)) q.1 = _
        rw [look_cons_ne (Ne.symm (hsd q hq it hit)), look_skip fun p hp => by
          obtain ⟨j, hj, _, rfl⟩ := slA_mem hp
          exact hsd q hq j hj]
        exact subS_mem hs q hq
    · by_cases e : j = it
      · subst e
        show (j.c == j.x || A j.c) = true
        rcases hc j hj with h | h
        · rw [h, beq_self_eq_true, Bool.true_or]
        · rw [hds _ (h ds hxl), Bool.or_true]
      · have hne : j.x ≠ it.x := fun h => e (nodup_inj hx hj hit h)
        have hAj : (j.x == it.x || A j.x) = true := hAj
        rw [orA_ne hne] at hAj
        show (j.c == it.x || A j.c) = true
        rw [hcl j hj hAj, Bool.or_true]
  · rintro A _ ⟨_, b, rfl⟩ hall
    have hall' : ∀ it ∈ its, A it.x = true := fun it hit => hall _ (hl ▸ List.mem_map.2 ⟨it, hit, rfl⟩)
    have e : ∀ its : List MkI, (∀ it ∈ its, A it.x = true) → slA A b its = its.map (fun it => (it.d, it.v (b it.c))) ∧ bkA A b its = its.flatMap (fun it => it.o (b it.c)) := fun its => by
      induction its with
      | nil => intro _; exact ⟨rfl, rfl⟩
      | cons it r ih =>
        intro h
        obtain ⟨i1, i2⟩ := ih fun j hj => h j (List.mem_cons_of_mem _ hj)
        have h0 := h it (List.mem_cons_self ..)
        simp only [slA, bkA, List.map_cons, List.flatMap_cons]
        rw [h0, cond_true, cond_true, i1, i2]
        exact ⟨rfl, rfl⟩
    obtain ⟨e1, e2⟩ := e its hall'
    rw [e1, e2]
    exact hk b
end Go.Proofs.YtgimodceldoniaaGreatDoor
namespace Go.Proofs.YtgimodceldoniaaGreatDoor
open Go.RowKit
attribute [local irreducible] Fn WC WL WR OW Qt YieldFn QW FnP FnD FnE
theorem ack_fn {L : List (Nat × Obj)} : Fn Tryz.prog 5 [] L (fun v L' => v = .agg (gcs 1 2 true 5 3 zMsg) ∧ L' = L) := by
  refine Fn_enter Tryz.func5 rfl Tryz.ntmps5 rfl fun g => ?_
  repeat (first | refine RQ ?_ | (refine RE ?_; try intro _) | refine RC ?_ | refine WC_region ?_)
  exact ⟨rfl, _, _, Res1 rfl (resV_cellN rfl 0 rfl (by kernel_rfl)), .cons _ (.refl _), by congr 1, rfl⟩
theorem mark_fn {L : List (Nat × Obj)} : Fn Tryz.prog 6 [] L (fun v L' => v = .agg (gcs 1 2 false 300 0 ((gkM 1 10 0 0).cells none 0 none 0)) ∧ L' = L) := by
  refine Fn_enter Tryz.func6 rfl Tryz.ntmps6 rfl fun g => ?_
  repeat (first | refine RQ ?_ | (refine RE ?_; try intro _) | refine RC ?_ | refine WC_region ?_)
  exact ⟨rfl, _, _, Res1 rfl (resV_cellN rfl 0 rfl (by kernel_rfl)), .cons _ (.refl _), by congr 1, rfl⟩
theorem evp1 {s : List (Nat × Value)} {i t : Nat} {v : Value} (h : look s t = some v) : evp s [(i, .tmp t)] = some [(i, v)] := by simp [evp, ev, h]
theorem evp2 {s : List (Nat × Value)} {i j t : Nat} {v w : Value} (h : look s t = some v) : evp s [(i, .const w), (j, .tmp t)] = some [(i, w), (j, v)] := by simp [evp, ev, h]
theorem evp3 {s : List (Nat × Value)} {i j t : Nat} {v w : Value} (h : look s t = some v) : evp s [(i, .tmp t), (j, .const w)] = some [(i, v), (j, w)] := by simp [evp, ev, h]
theorem OW_bld {c : Cx} {d t ty : Nat} {pos : String} {aft : Array Edge} {Kn : St → Prop} {K : Exit → St → Prop} {s : List (Nat × Value)} {D : List Deferred} {L : List (Nat × Obj)} {z : Array Value} {pl : List (Nat × Nat)} [TBuild c.P t z pl] {parts : Array (Nat × Operand)} {vs : List (Nat × Value)} {cs : Array Value} (hx : evp s parts.toList = some vs) (hk : Kn ⟨(d, .agg cs) :: s, D, L⟩)
    (hf : Filled pl z vs cs := by repeat (first | exact rfl | refine ⟨_, _, rfl, (by first | with_reducible assumption | rfl | assumption), (by first | exact Nat.le_of_ble_eq_true rfl | omega), ?_⟩)) (hd : Nat.blt d c.N = true := by exact rfl) : OW c ⟨some d, .build t parts, ty, pos, aft, none⟩ Kn K ⟨s, D, L⟩ := OW_Q (QW_of (Qt_buildB rfl hx hf) hk) hd
abbrev slW (b n : Nat) : Value := .slice (some ⟨b, 0, none⟩) n n
abbrev cmdW (b n : Nat) : Value := .agg (putR zc31 2 (slW b n).cells)
abbrev chW (b n : Nat) : Value := .agg (putR zc34 3 (slW b n).cells)
abbrev msgC (b n : Nat) : Value := .agg (putR (putR zc36 0 (Value.int .i64 3).cells) 10 (cmdW b n).cells)
abbrev msgC0 (b n : Nat) : Value := .agg (putR zc36 10 (cmdW b n).cells)
abbrev msgP (b n : Nat) : Value := .agg (putR (putR zc36 0 (Value.int .i64 4).cells) 20 (chW b n).cells)
abbrev grW (v : Value) : Value := .agg (putR zc38 5 v.cells)
abbrev rowW (v : Value) (e : Int) : Value := .agg (putR (putR zc41 0 v.cells) 29 (Value.int .i64 e).cells)
def gkIts : List MkI := [⟨29, 52, 29, fun b => slW b 9, fun b => [(b, .cells (madeCells #[zI] (9 * 1)) 3 (0, 0))]⟩, ⟨30, 53, 29, fun b => cmdW b 9, fun _ => []⟩, ⟨31, 54, 29, fun b => msgC b 9, fun _ => []⟩, ⟨32, 55, 29, fun b => grW (msgC b 9), fun _ => []⟩, ⟨33, 56, 29, fun b => rowW (grW (msgC b 9)) 4, fun _ => []⟩, ⟨34, 57, 34, fun b => slW b 8, fun b => [(b, .cells (madeCells #[zI] (8 * 1)) 3 (0, 0))]⟩, ⟨35, 58, 34, fun b => cmdW b 8, fun _ => []⟩, ⟨36, 59, 34, fun b => msgC b 8, fun _ => []⟩, ⟨37, 60, 34, fun b => grW (msgC b 8), fun _ => []⟩, ⟨38, 61, 34, fun b => rowW (grW (msgC b 8)) 0, fun _ => []⟩, ⟨39, 62, 39, fun b => slW b 9, fun b => [(b, .cells (madeCells #[zI] (9 * 1)) 3 (0, 0))]⟩, ⟨40, 63, 39, fun b => cmdW b 9, fun _ => []⟩, ⟨41, 64, 39, fun b => msgC0 b 9, fun _ => []⟩, ⟨42, 65, 39, fun b => grW (msgC0 b 9), fun _ => []⟩, ⟨43, 66, 39, fun b => rowW (grW (msgC0 b 9)) 0, fun _ => []⟩, ⟨44, 67, 44, fun b => slW b 65, fun b => [(b, .cells (madeCells zEnt.toArray (65 * 10)) 157 (0, 0))]⟩, ⟨45, 68, 44, fun b => chW b 65, fun _ => []⟩, ⟨46, 69, 44, fun b => msgP b 65, fun _ => []⟩, ⟨47, 70, 44, fun b => grW (msgP b 65), fun _ => []⟩, ⟨48, 71, 44, fun b => rowW (grW (msgP b 65)) 4, fun _ => []⟩, ⟨49, 72, 49, fun b => slW b 64, fun b => [(b, .cells (madeCells zEnt.toArray (64 * 10)) 157 (0, 0))]⟩, ⟨50, 73, 49, fun b => chW b 64, fun _ => []⟩, ⟨51, 74, 49, fun b => msgP b 64, fun _ => []⟩, ⟨52, 75, 49, fun b => grW (msgP b 64), fun _ => []⟩, ⟨53, 76, 49, fun b => rowW (grW (msgP b 64)) 0, fun _ => []⟩]
theorem gk_d : (gkIts.map MkI.d).Nodup := by decide
def gkL : List (Nat × List Nat) := [(29, []), (30, [29]), (31, [29, 30]), (32, [29, 30, 31]), (33, [29, 30, 31, 32]), (34, []), (35, [34]), (36, [34, 35]), (37, [34, 35, 36]), (38, [34, 35, 36, 37]), (39, []), (40, [39]), (41, [39, 40]), (42, [39, 40, 41]), (43, [39, 40, 41, 42]), (44, []), (45, [44]), (46, [44, 45]), (47, [44, 45, 46]), (48, [44, 45, 46, 47]), (49, []), (50, [49]), (51, [49, 50]), (52, [49, 50, 51]), (53, [49, 50, 51, 52])]
theorem gk_ds {x : Nat} {ds ds' : List Nat} (h : (x, ds) ∈ gkL) (h' : gkL.find? (fun q => q.1 == x) = some (x, ds')) : ds = ds' := by
  have key : ∀ q ∈ gkL, gkL.find? (fun p => p.1 == q.1) = some q := by decide
  have := key _ h
  rw [this] at h'
  cases h'
  rfl
set_option maxRecDepth 100000 in
set_option maxHeartbeats 16000000 in
theorem gknown_fn {L : List (Nat × Obj)} (hH : HandleIn L) : Fn Tryz.prog 3 [] L (fun v L' => v = .bool true ∧ L' = L) := by
  refine Fn_enter Tryz.func3 rfl Tryz.ntmps3 rfl fun g => ?_
  repeat (first | refine RQ ?_ | (refine RE ?_; try intro _) | (refine WL_op rfl ?_; (first | refine OW_callP rfl (hF := works18_fn (by repeat (first | with_reducible assumption | apply HandleIn.cons))) (hk := ?_) | refine OW_callP rfl (hF := ack_fn) (hk := ?_) | refine OW_callP rfl (hF := mark_fn) (hk := ?_))) | refine RC ?_ | refine WG 0 ?_ | refine WG 1 ?_ | refine WG 3 ?_)
  rename_i x1 x2
  refine WC_wk [(1, .pointer (some ⟨x1, 0, none⟩)), (2, .pointer (some ⟨x2, 0, none⟩))] ⟨rfl, rfl, trivial⟩ ?_
  refine WC_drawK (id := 4) [(x2, Obj.cells (gcs 1 2 false 300 0 ((gkM 1 10 0 0).cells none 0 none 0)) 38 (0, 0)), (x1, Obj.cells (gcs 1 2 true 5 3 zMsg) 38 (0, 0))] 57 (Cs [0,1,2,3,4,5,6,7,8,9,10,11,12,13,14,15,16,17,18,19,20,21,22,23,24,25,26,27,28,56] <| .par [(29, []), (30, [29]), (31, [29, 30]), (32, [29, 30, 31]), (33, [29, 30, 31, 32]), (34, []), (35, [34]), (36, [34, 35]), (37, [34, 35, 36]), (38, [34, 35, 36, 37]), (39, []), (40, [39]), (41, [39, 40]), (42, [39, 40, 41]), (43, [39, 40, 41, 42]), (44, []), (45, [44]), (46, [44, 45]), (47, [44, 45, 46]), (48, [44, 45, 46, 47]), (49, []), (50, [49]), (51, [49, 50]), (52, [49, 50, 51]), (53, [49, 50, 51, 52])] <| .must 54 <| .calm 55 <| .done) mixed (by kernel_rfl) (by kernel_rfl) (.cons_cons _ (.cons_cons _ (List.nil_sublist _))) ?_
  iterate 30 refine WS_c rfl (QW_a ?_)
  refine WS_group gkIts rfl (by decide) gk_d (by repeat (first | exact trivial | refine ⟨rfl, ?_⟩)) ?_ (fun q hq => sub_mem (.cons_cons _ (.cons_cons _ (List.nil_sublist _))) q hq) ?_ ?_ ?_
  · intro j hj
    simp only [gkIts, List.mem_cons, List.not_mem_nil, or_false] at hj
    rcases hj with rfl | rfl | rfl | rfl | rfl | rfl | rfl | rfl | rfl | rfl | rfl | rfl | rfl | rfl | rfl | rfl | rfl | rfl | rfl | rfl | rfl | rfl | rfl | rfl | rfl <;> rfl
  · intro it hit
    simp only [gkIts, List.mem_cons, List.not_mem_nil, or_false] at hit
    rcases hit with rfl | rfl | rfl | rfl | rfl | rfl | rfl | rfl | rfl | rfl | rfl | rfl | rfl | rfl | rfl | rfl | rfl | rfl | rfl | rfl | rfl | rfl | rfl | rfl | rfl
    all_goals first | exact .inl rfl | exact .inr (fun ds h => by rw [gk_ds h rfl]; decide)
  · intro it hit
    simp only [gkIts, List.mem_cons, List.not_mem_nil, or_false] at hit
    rcases hit with rfl | rfl | rfl | rfl | rfl | rfl | rfl | rfl | rfl | rfl | rfl | rfl | rfl | rfl | rfl | rfl | rfl | rfl | rfl | rfl | rfl | rfl | rfl | rfl | rfl
    · refine ⟨_, rfl, rfl, fun ds A b Kn hm hds hcl hA hk => OW_makeN 9 rfl (hk := fun nb => ?_)⟩
      have h := hk (updA b 29 nb) (fun j hj hAj => updA_ne (fun e => by have h1 := hcl j hj hAj; rw [e] at h1; rw [hA] at h1; cases h1))
      rw [show updA b 29 nb 29 = nb from updA_at b 29 nb] at h
      exact h
    · refine ⟨_, rfl, rfl, fun ds A b Kn hm hds hcl hA hk => ?_⟩
      obtain rfl := gk_ds hm rfl
      have hl := fun s : List (Nat × Value) => slA_look (b := b) (s := s) (j := ⟨29, 52, 29, fun b => slW b 9, fun b => [(b, .cells (madeCells #[zI] (9 * 1)) 3 (0, 0))]⟩) gk_d (by simp [gkIts]) (hds 29 (by simp))
      exact OW_bld (evp1 (hl _)) (hk b (fun _ _ _ => rfl))
    · refine ⟨_, rfl, rfl, fun ds A b Kn hm hds hcl hA hk => ?_⟩
      obtain rfl := gk_ds hm rfl
      have hl := fun s : List (Nat × Value) => slA_look (b := b) (s := s) (j := ⟨30, 53, 29, fun b => cmdW b 9, fun _ => []⟩) gk_d (by simp [gkIts]) (hds 30 (by simp))
      exact OW_bld (evp2 (hl _)) (hk b (fun _ _ _ => rfl))
    · refine ⟨_, rfl, rfl, fun ds A b Kn hm hds hcl hA hk => ?_⟩
      obtain rfl := gk_ds hm rfl
      have hl := fun s : List (Nat × Value) => slA_look (b := b) (s := s) (j := ⟨31, 54, 29, fun b => msgC b 9, fun _ => []⟩) gk_d (by simp [gkIts]) (hds 31 (by simp))
      exact OW_bld (evp1 (hl _)) (hk b (fun _ _ _ => rfl))
    · refine ⟨_, rfl, rfl, fun ds A b Kn hm hds hcl hA hk => ?_⟩
      obtain rfl := gk_ds hm rfl
      have hl := fun s : List (Nat × Value) => slA_look (b := b) (s := s) (j := ⟨32, 55, 29, fun b => grW (msgC b 9), fun _ => []⟩) gk_d (by simp [gkIts]) (hds 32 (by simp))
      exact OW_bld (evp3 (hl _)) (hk b (fun _ _ _ => rfl))
    · refine ⟨_, rfl, rfl, fun ds A b Kn hm hds hcl hA hk => OW_makeN 8 rfl (hk := fun nb => ?_)⟩
      have h := hk (updA b 34 nb) (fun j hj hAj => updA_ne (fun e => by have h1 := hcl j hj hAj; rw [e] at h1; rw [hA] at h1; cases h1))
      rw [show updA b 34 nb 34 = nb from updA_at b 34 nb] at h
      exact h
    · refine ⟨_, rfl, rfl, fun ds A b Kn hm hds hcl hA hk => ?_⟩
      obtain rfl := gk_ds hm rfl
      have hl := fun s : List (Nat × Value) => slA_look (b := b) (s := s) (j := ⟨34, 57, 34, fun b => slW b 8, fun b => [(b, .cells (madeCells #[zI] (8 * 1)) 3 (0, 0))]⟩) gk_d (by simp [gkIts]) (hds 34 (by simp))
      exact OW_bld (evp1 (hl _)) (hk b (fun _ _ _ => rfl))
    · refine ⟨_, rfl, rfl, fun ds A b Kn hm hds hcl hA hk => ?_⟩
      obtain rfl := gk_ds hm rfl
      have hl := fun s : List (Nat × Value) => slA_look (b := b) (s := s) (j := ⟨35, 58, 34, fun b => cmdW b 8, fun _ => []⟩) gk_d (by simp [gkIts]) (hds 35 (by simp))
      exact OW_bld (evp2 (hl _)) (hk b (fun _ _ _ => rfl))
    · refine ⟨_, rfl, rfl, fun ds A b Kn hm hds hcl hA hk => ?_⟩
      obtain rfl := gk_ds hm rfl
      have hl := fun s : List (Nat × Value) => slA_look (b := b) (s := s) (j := ⟨36, 59, 34, fun b => msgC b 8, fun _ => []⟩) gk_d (by simp [gkIts]) (hds 36 (by simp))
      exact OW_bld (evp1 (hl _)) (hk b (fun _ _ _ => rfl))
    · refine ⟨_, rfl, rfl, fun ds A b Kn hm hds hcl hA hk => ?_⟩
      obtain rfl := gk_ds hm rfl
      have hl := fun s : List (Nat × Value) => slA_look (b := b) (s := s) (j := ⟨37, 60, 34, fun b => grW (msgC b 8), fun _ => []⟩) gk_d (by simp [gkIts]) (hds 37 (by simp))
      exact OW_bld (evp3 (hl _)) (hk b (fun _ _ _ => rfl))
    · refine ⟨_, rfl, rfl, fun ds A b Kn hm hds hcl hA hk => OW_makeN 9 rfl (hk := fun nb => ?_)⟩
      have h := hk (updA b 39 nb) (fun j hj hAj => updA_ne (fun e => by have h1 := hcl j hj hAj; rw [e] at h1; rw [hA] at h1; cases h1))
      rw [show updA b 39 nb 39 = nb from updA_at b 39 nb] at h
      exact h
    · refine ⟨_, rfl, rfl, fun ds A b Kn hm hds hcl hA hk => ?_⟩
      obtain rfl := gk_ds hm rfl
      have hl := fun s : List (Nat × Value) => slA_look (b := b) (s := s) (j := ⟨39, 62, 39, fun b => slW b 9, fun b => [(b, .cells (madeCells #[zI] (9 * 1)) 3 (0, 0))]⟩) gk_d (by simp [gkIts]) (hds 39 (by simp))
      exact OW_bld (evp1 (hl _)) (hk b (fun _ _ _ => rfl))
    · refine ⟨_, rfl, rfl, fun ds A b Kn hm hds hcl hA hk => ?_⟩
      obtain rfl := gk_ds hm rfl
      have hl := fun s : List (Nat × Value) => slA_look (b := b) (s := s) (j := ⟨40, 63, 39, fun b => cmdW b 9, fun _ => []⟩) gk_d (by simp [gkIts]) (hds 40 (by simp))
      exact OW_bld (evp1 (hl _)) (hk b (fun _ _ _ => rfl))
    · refine ⟨_, rfl, rfl, fun ds A b Kn hm hds hcl hA hk => ?_⟩
      obtain rfl := gk_ds hm rfl
      have hl := fun s : List (Nat × Value) => slA_look (b := b) (s := s) (j := ⟨41, 64, 39, fun b => msgC0 b 9, fun _ => []⟩) gk_d (by simp [gkIts]) (hds 41 (by simp))
      exact OW_bld (evp1 (hl _)) (hk b (fun _ _ _ => rfl))
    · refine ⟨_, rfl, rfl, fun ds A b Kn hm hds hcl hA hk => ?_⟩
      obtain rfl := gk_ds hm rfl
      have hl := fun s : List (Nat × Value) => slA_look (b := b) (s := s) (j := ⟨42, 65, 39, fun b => grW (msgC0 b 9), fun _ => []⟩) gk_d (by simp [gkIts]) (hds 42 (by simp))
      exact OW_bld (evp3 (hl _)) (hk b (fun _ _ _ => rfl))
    · refine ⟨_, rfl, rfl, fun ds A b Kn hm hds hcl hA hk => OW_makeN 65 rfl (hk := fun nb => ?_)⟩
      have h := hk (updA b 44 nb) (fun j hj hAj => updA_ne (fun e => by have h1 := hcl j hj hAj; rw [e] at h1; rw [hA] at h1; cases h1))
      rw [show updA b 44 nb 44 = nb from updA_at b 44 nb] at h
      exact h
    · refine ⟨_, rfl, rfl, fun ds A b Kn hm hds hcl hA hk => ?_⟩
      obtain rfl := gk_ds hm rfl
      have hl := fun s : List (Nat × Value) => slA_look (b := b) (s := s) (j := ⟨44, 67, 44, fun b => slW b 65, fun b => [(b, .cells (madeCells zEnt.toArray (65 * 10)) 157 (0, 0))]⟩) gk_d (by simp [gkIts]) (hds 44 (by simp))
      exact OW_bld (evp1 (hl _)) (hk b (fun _ _ _ => rfl))
    · refine ⟨_, rfl, rfl, fun ds A b Kn hm hds hcl hA hk => ?_⟩
      obtain rfl := gk_ds hm rfl
      have hl := fun s : List (Nat × Value) => slA_look (b := b) (s := s) (j := ⟨45, 68, 44, fun b => chW b 65, fun _ => []⟩) gk_d (by simp [gkIts]) (hds 45 (by simp))
      exact OW_bld (evp2 (hl _)) (hk b (fun _ _ _ => rfl))
    · refine ⟨_, rfl, rfl, fun ds A b Kn hm hds hcl hA hk => ?_⟩
      obtain rfl := gk_ds hm rfl
      have hl := fun s : List (Nat × Value) => slA_look (b := b) (s := s) (j := ⟨46, 69, 44, fun b => msgP b 65, fun _ => []⟩) gk_d (by simp [gkIts]) (hds 46 (by simp))
      exact OW_bld (evp1 (hl _)) (hk b (fun _ _ _ => rfl))
    · refine ⟨_, rfl, rfl, fun ds A b Kn hm hds hcl hA hk => ?_⟩
      obtain rfl := gk_ds hm rfl
      have hl := fun s : List (Nat × Value) => slA_look (b := b) (s := s) (j := ⟨47, 70, 44, fun b => grW (msgP b 65), fun _ => []⟩) gk_d (by simp [gkIts]) (hds 47 (by simp))
      exact OW_bld (evp3 (hl _)) (hk b (fun _ _ _ => rfl))
    · refine ⟨_, rfl, rfl, fun ds A b Kn hm hds hcl hA hk => OW_makeN 64 rfl (hk := fun nb => ?_)⟩
      have h := hk (updA b 49 nb) (fun j hj hAj => updA_ne (fun e => by have h1 := hcl j hj hAj; rw [e] at h1; rw [hA] at h1; cases h1))
      rw [show updA b 49 nb 49 = nb from updA_at b 49 nb] at h
      exact h
    · refine ⟨_, rfl, rfl, fun ds A b Kn hm hds hcl hA hk => ?_⟩
      obtain rfl := gk_ds hm rfl
      have hl := fun s : List (Nat × Value) => slA_look (b := b) (s := s) (j := ⟨49, 72, 49, fun b => slW b 64, fun b => [(b, .cells (madeCells zEnt.toArray (64 * 10)) 157 (0, 0))]⟩) gk_d (by simp [gkIts]) (hds 49 (by simp))
      exact OW_bld (evp1 (hl _)) (hk b (fun _ _ _ => rfl))
    · refine ⟨_, rfl, rfl, fun ds A b Kn hm hds hcl hA hk => ?_⟩
      obtain rfl := gk_ds hm rfl
      have hl := fun s : List (Nat × Value) => slA_look (b := b) (s := s) (j := ⟨50, 73, 49, fun b => chW b 64, fun _ => []⟩) gk_d (by simp [gkIts]) (hds 50 (by simp))
      exact OW_bld (evp2 (hl _)) (hk b (fun _ _ _ => rfl))
    · refine ⟨_, rfl, rfl, fun ds A b Kn hm hds hcl hA hk => ?_⟩
      obtain rfl := gk_ds hm rfl
      have hl := fun s : List (Nat × Value) => slA_look (b := b) (s := s) (j := ⟨51, 74, 49, fun b => msgP b 64, fun _ => []⟩) gk_d (by simp [gkIts]) (hds 51 (by simp))
      exact OW_bld (evp1 (hl _)) (hk b (fun _ _ _ => rfl))
    · refine ⟨_, rfl, rfl, fun ds A b Kn hm hds hcl hA hk => ?_⟩
      obtain rfl := gk_ds hm rfl
      have hl := fun s : List (Nat × Value) => slA_look (b := b) (s := s) (j := ⟨52, 75, 49, fun b => grW (msgP b 64), fun _ => []⟩) gk_d (by simp [gkIts]) (hds 52 (by simp))
      exact OW_bld (evp3 (hl _)) (hk b (fun _ _ _ => rfl))
  intro b
  simp only [gkIts, List.map_cons, List.map_nil, List.flatMap_cons, List.flatMap_nil, List.nil_append, List.cons_append, List.append_nil]
  generalize b 29 = b1
  generalize b 34 = b2
  generalize b 39 = b3
  generalize b 44 = b4
  generalize b 49 = b5
  refine WS_m rfl rfl (OW_buildE ((kIts b1 b2 b3 b4 b5).flatMap KIt.cells).toArray rfl (hk := fun rb => ?_))
  refine ⟨sub_mem (by repeat (first | exact .cons_cons _ (.cons_cons _ (List.nil_sublist _)) | apply List.Sublist.cons)), ?_⟩
  iterate 1 refine WS_c rfl (QW_a ?_)
  refine WS_d ?_
  refine WC_wk [(79, .int .i64 ((0 : Nat) : Int)), (78, .int .i64 ((18 : Nat) : Int)), (77, .slice (some ⟨rb, 0, none⟩) 18 18)] ⟨rfl, rfl, rfl, trivial⟩ ?_
  obtain ⟨M, hM⟩ : ∃ M : List (Nat × Obj), M = (rb, Obj.cells ((kIts b1 b2 b3 b4 b5).flatMap KIt.cells).toArray 41 (0, 0)) :: (b1, Obj.cells (madeCells #[zI] (9 * 1)) 3 (0, 0)) :: (b2, Obj.cells (madeCells #[zI] (8 * 1)) 3 (0, 0)) :: (b3, Obj.cells (madeCells #[zI] (9 * 1)) 3 (0, 0)) :: (b4, Obj.cells (madeCells zEnt.toArray (65 * 10)) 157 (0, 0)) :: (b5, Obj.cells (madeCells zEnt.toArray (64 * 10)) 157 (0, 0)) :: L := ⟨_, rfl⟩
  refine WC_dropL M (by rw [hM]; exact .cons_cons _ (.cons_cons _ (.cons_cons _ (.cons_cons _ (.cons_cons _ (.cons_cons _ (.cons _ (.cons _ (.refl _))))))))) ?_
  have hit := kIts_ok (L := M) (i1 := 1) (i2 := 2) (i3 := 3) (i4 := 4) (i5 := 5) (by rw [hM]; rfl) (by rw [hM]; rfl) (by rw [hM]; rfl) (by rw [hM]; rfl) (by rw [hM]; rfl)
  have hlen := kit_len b1 b2 b3 b4 b5
  have hrb : M[0]? = some (rb, Obj.cells ((kIts b1 b2 b3 b4 b5).flatMap KIt.cells).toArray 41 (0, 0)) := by rw [hM]; rfl
  have hLM : L.Sublist M := by rw [hM]; exact .cons _ (.cons _ (.cons _ (.cons _ (.cons _ (.cons _ (.refl _))))))
  have hHM : HandleIn M := by rw [hM]; exact (((((hH.cons _).cons _).cons _).cons _).cons _).cons _
  clear hM
  obtain ⟨its, hits⟩ : ∃ its, its = kIts b1 b2 b3 b4 b5 := ⟨_, rfl⟩
  have hl18 : its.length = 18 := by rw [hits]; rfl
  rw [← hits] at hit hlen hrb
  clear hits
  have hfl : (its.flatMap KIt.cells).length = its.length * 30 := by
    clear hrb hit hl18
    induction its with
    | nil => rfl
    | cons x r ih => rw [List.flatMap_cons, List.length_append, ih (fun y hy => hlen y (List.mem_cons_of_mem _ hy)), hlen x (List.mem_cons_self ..), List.length_cons]; omega
  repeat (first | refine RQ ?_ | refine RC ?_)
  refine WC_loop (fun m σ => ∃ i : Nat, m = 18 - i ∧ i ≤ 18 ∧ σ = ⟨[(79, .int .i64 (i : Nat)), (78, .int .i64 ((18 : Nat) : Int)), (77, .slice (some ⟨rb, 0, none⟩) 18 18)], [], M⟩) 18 ⟨0, rfl, Nat.zero_le _, rfl⟩ ?_
  rintro m σ ⟨i, rfl, hi, rfl⟩
  by_cases hlt : i < 18
  · have d : decide ((i : Int) < ((18 : Nat) : Int)) = true := decide_eq_true (by omega)
    have w : IntKind.i64.wrap ((i : Int) + 1) = ((i + 1 : Nat) : Int) := by rw [wI64 (by omega) (by omega)]; omega
    have p0 : (0 : Int) ≤ (i : Int) := by omega
    have p1 : ((i : Nat) : Int) < ((18 : Nat) : Int) := by omega
    obtain ⟨x, hx⟩ : ∃ x, its[i]? = some x := ⟨_, List.getElem?_eq_getElem (by omega)⟩
    have hok := hit x (List.mem_of_getElem? hx)
    have hxl := hlen x (List.mem_of_getElem? hx)
    have hG := hok.at_
    have hgl := hG.size
    have hgo := hG.one
    have r2 : ((i : Nat) : Int).toNat * 30 + 30 ≤ (its.flatMap KIt.cells).toArray.size := by rw [Int.toNat_natCast, List.size_toArray, hfl]; omega
    have r3 : (its.flatMap KIt.cells).toArray.extract (((i : Nat) : Int).toNat * 30) (((i : Nat) : Int).toNat * 30 + 30) = x.cells.toArray := by
      rw [Int.toNat_natCast, List.extract_toArray, List.extract_eq_take_drop, Nat.add_sub_cancel_left, flat_at hlen hx]
    have hxz : x.cells.toArray.size = 30 := hxl
    have hxo : (x.cells.toArray.toList.all fun v => v.oneCell') = true := by
      show ((x.g.cells x.a x.cap x.a' x.cap' ++ [Value.int .i64 x.e]).all _) = true
      rw [List.all_append]
      have : ((x.g.cells x.a x.cap x.a' x.cap').all fun v => v.oneCell') = true := hgo
      rw [this]; rfl
    have e29 : x.cells.toArray.extract 0 (0 + 29) = (x.g.cells x.a x.cap x.a' x.cap').toArray := by
      have : (x.g.cells x.a x.cap x.a' x.cap').length = 29 := by simpa using hgl
      rw [List.extract_toArray, List.extract_eq_take_drop]
      show (((x.g.cells x.a x.cap x.a' x.cap' ++ [Value.int .i64 x.e]).drop 0).take 29).toArray = _
      rw [List.drop_zero, List.take_append_of_le_length (by omega), List.take_of_length_le (by omega)]
    have h29 : x.cells.toArray[29]? = some (.int .i64 x.e) := by
      have : (x.g.cells x.a x.cap x.a' x.cap').length = 29 := by simpa using hgl
      rw [List.getElem?_toArray]
      show (x.g.cells x.a x.cap x.a' x.cap' ++ [Value.int .i64 x.e])[29]? = _
      rw [List.getElem?_append_right (by omega), this]; rfl
    have hx29 : 0 + 29 ≤ x.cells.toArray.size := by rw [hxz]; decide
    repeat (first | refine RQ ?_ | (refine RE ?_; try intro _) | refine RC ?_ | refine WG 5 ?_ | refine WG 6 ?_)
    rw [r3]
    repeat (first | refine RQ ?_ | (refine RE ?_; try intro _) | refine RC ?_ | refine WG 6 ?_ | refine WG 7 ?_)
    rw [e29]
    have t1 : (((x.g.put.2 : Nat) : Int) != x.e) = false := by rw [hok.err]; simp
    have t2 := GV.put_none x.g
    repeat (first | refine RQ ?_ | ((first | refine WL_op rfl ?_ | refine WL_yes (h := ?_)); (first | refine OW_callP rfl (hF := Put_fn (hG.cons _) hok.nb hok.ne) (hk := ?_))) | refine RC ?_ | refine WG 7 ?_ | refine WG 8 ?_ | refine WG 10 ?_)
    rw [w]
    exact ⟨_, _, by omega, ⟨i + 1, rfl, by omega, rfl⟩, ⟨rfl, rfl, rfl, trivial⟩, rfl, .cons _ (.refl _)⟩
  · have d : decide ((i : Int) < ((18 : Nat) : Int)) = false := decide_eq_false (by omega)
    have zgz : zc38.size = 29 := rfl
    have zgo : (zc38.toList.all fun v => v.oneCell') = true := rfl
    repeat (first | refine RQ ?_ | (refine RE ?_; try intro _) | refine RC ?_ | refine WG 5 ?_ | refine WG 11 ?_)
    refine WL_op rfl (OW_call rfl (hF := Get_fn (l := []) (by decide) (by repeat (first | with_reducible assumption | apply HandleIn.cons))) (hk := ?_))
    rintro _ _ (⟨g', b', T', cs', h1, _⟩ | ⟨c, e, p1, h1, rfl, rfl⟩)
    · rw [show prGram [] = .bad 3 0 from rfl] at h1; cases h1
    rw [show prGram [] = .bad 3 0 from rfl] at h1
    cases h1
    repeat (first | refine RQ ?_ | (refine RE ?_; try intro _) | refine RC ?_ | refine WG 11 ?_ | refine WG 12 ?_)
    refine WL_op rfl (OW_call rfl (hF := Get_fn (l := [132, 128, 0]) (by decide) (by repeat (first | with_reducible assumption | apply HandleIn.cons))) (hk := ?_))
    rintro _ _ (⟨g', b', T', cs', h1, _⟩ | ⟨c, e, p2, h1, rfl, rfl⟩)
    · rw [show prGram [132, 128, 0] = .bad 2 0 from rfl] at h1; cases h1
    rw [show prGram [132, 128, 0] = .bad 2 0 from rfl] at h1
    cases h1
    repeat (first | refine RQ ?_ | (refine RE ?_; try intro _) | refine RC ?_ | refine WG 12 ?_ | refine WG 13 ?_)
    refine WL_op rfl (OW_call rfl (hF := Get_fn (l := [1, 2, 1, 5, 3, 0]) (by decide) (by repeat (first | with_reducible assumption | apply HandleIn.cons))) (hk := ?_))
    rintro _ _ (⟨g', b', T', cs', h1, _⟩ | ⟨c, e, p3, h1, rfl, rfl⟩)
    · rw [show prGram [1, 2, 1, 5, 3, 0] = .bad 4 5 from rfl] at h1; cases h1
    rw [show prGram [1, 2, 1, 5, 3, 0] = .bad 4 5 from rfl] at h1
    cases h1
    repeat (first | refine RQ ?_ | (refine RE ?_; try intro _) | refine RC ?_ | refine WG 13 ?_ | refine WG 14 ?_)
    refine WL_op rfl (OW_call rfl (hF := Get_fn (l := [1, 2, 0, 5, 10, 0]) (by decide) (by repeat (first | with_reducible assumption | apply HandleIn.cons))) (hk := ?_))
    rintro _ _ (⟨g', b', T', cs', h1, _⟩ | ⟨c, e, p4, h1, rfl, rfl⟩)
    · rw [show prGram [1, 2, 0, 5, 10, 0] = .bad 6 4 from rfl] at h1; cases h1
    rw [show prGram [1, 2, 0, 5, 10, 0] = .bad 6 4 from rfl] at h1
    cases h1
    repeat (first | refine RQ ?_ | (refine RE ?_; try intro _) | refine RC ?_ | refine WG 14 ?_ | refine WG 15 ?_)
    rename_i x7 x9 x11 x13
    have hpr : prGram [131, 255, 127, 99, 1, 0, 16] = .ok ⟨65535, 99, true, 0, 16, MV.none⟩ 7 := rfl
    refine WL_op rfl (OW_call rfl (hF := Get_fn (l := [131, 255, 127, 99, 1, 0, 16]) (by decide) (by repeat (first | with_reducible assumption | apply HandleIn.cons))) (hk := ?_))
    rintro _ _ (⟨g', b', T', cs', h1, hG, rfl, rfl⟩ | ⟨c, e, p, h1, _⟩)
    rotate_left
    · rw [hpr] at h1; cases h1
    rw [hpr] at h1
    cases h1
    have hok := (prGram_went hpr).1.ok
    have hcz := hG.size hok.m
    have hco := hG.one hok.m
    obtain ⟨a1, q1, a1', q1', M1⟩ := gramAt_of hG hok
    have M2 : ∀ L, GramAt L (GV.cells ⟨65535, 99, true, 0, 16, MV.none⟩ none 0 none 0).toArray ⟨65535, 99, true, 0, 16, MV.none⟩ none 0 none 0 := fun L => ⟨hok, rfl, .inl rfl, .inl rfl, Nat.le_refl _, Nat.le_refl _, Nat.zero_le _, Nat.zero_le _⟩
    have hHT := hHM.left T'
    repeat (first | refine RQ ?_ | (refine RE ?_; try intro _) | refine RC ?_ | refine WG 15 ?_)
    rename_i x15
    refine WC_dropL ((x15, Obj.cells cs' 38 (0, 0)) :: (p4, fltO 6 4) :: (p3, fltO 4 5) :: (p2, fltO 2 0) :: (p1, fltO 3 0) :: (M ++ T')) (.cons_cons _ (.cons _ (.cons_cons _ (.cons _ (.cons_cons _ (.cons _ (.cons_cons _ (.cons _ (.refl _))))))))) ?_
    repeat (first | refine RQ ?_ | ((first | refine WL_op rfl ?_ | refine WL_yes (h := ?_)); (first | refine OW_callP rfl (hF := told18_flt (code := 3) (a := 0) ((((hHT.cons _).cons _).cons _).cons _ |>.cons _) (by decide) (i := 4) rfl) (hk := ?_) | refine OW_callP rfl (hF := told18_flt (code := 2) (a := 0) ((((hHT.cons _).cons _).cons _).cons _ |>.cons _) (by decide) (i := 3) rfl) (hk := ?_) | refine OW_callP rfl (hF := told18_flt (code := 4) (a := 5) ((((hHT.cons _).cons _).cons _).cons _ |>.cons _) (by decide) (i := 2) rfl) (hk := ?_) | refine OW_callP rfl (hF := told18_flt (code := 6) (a := 4) ((((hHT.cons _).cons _).cons _).cons _ |>.cons _) (by decide) (i := 1) rfl) (hk := ?_) | refine OW_callP rfl (hF := sameGram_fn (M1.mem' (sub_mem (by repeat (first | exact List.sublist_append_right _ _ | apply List.Sublist.cons)))) (M2 _) (Nat.zero_le _) (Nat.zero_le _)) (hk := ?_))) | refine RC ?_ | refine WG 16 ?_)
    exact ⟨rfl, _, L, Res1 rfl (resV_tmp rfl), .cons _ (.cons _ (.cons _ (.cons _ (.cons _ (hLM.trans (List.sublist_append_left _ _)))))), rfl, rfl⟩
end Go.Proofs.YtgimodceldoniaaGreatDoor
namespace Go.Proofs.YtgimodceldoniaaGreatDoor
open Go.ChangeShapes Go.WideShapes Go.ChangeAt Go.RowKit
theorem ownOf : ownKnob Tryz.prog.godebug = none := by kernel_rfl
theorem laidOf : laidOutB Tryz.prog = true := by kernel_rfl
def allL (W : World) : List (Nat × Obj) := W.heap.toList.zipIdx.map fun p => (p.2, p.1)
theorem allL_get {W : World} {b : Nat} {o : Obj} (h : W.heap[b]? = some o) : (allL W)[b]? = some (b, o) := by
  simp [allL, h]
theorem allL_mem {W : World} {p : Nat × Obj} : p ∈ allL W → W.heap[p.1]? = some p.2 := fun h => by
  simp only [allL, List.mem_map] at h
  obtain ⟨⟨o, b⟩, h1, rfl⟩ := h
  have := List.mem_zipIdx_iff_getElem?.1 h1
  simpa using this
theorem allL_mem_of {W : World} {b : Nat} {o : Obj} (h : W.heap[b]? = some o) : (b, o) ∈ allL W := List.mem_of_getElem? (allL_get h)
theorem mem_allL (W : World) : Mem W (allL W) W where
  os := rfl
  tape := rfl
  output := rfl
  size := Nat.le_refl _
  nodup := by
    have : (allL W).map Prod.fst = List.range W.heap.size := by
      simp only [allL, List.map_map]
      apply List.ext_getElem?
      intro i
      simp only [List.getElem?_map, List.getElem?_zipIdx, Array.getElem?_toList]
      by_cases h : i < W.heap.size
      · simp [h]
      · simp [h]
    rw [this]; exact List.nodup_range
  has := fun _ h => allL_mem h
theorem below_of_mem {W W' : World} (h : Mem W (allL W) W') : Below W.heap.size W W' where
  os := h.os
  tape := h.tape
  output := h.output
  size := h.size
  block := fun k hk => by
    have h1 : W.heap[k]? = some W.heap[k] := Array.getElem?_eq_getElem hk
    rw [h1]
    exact h.has (k, W.heap[k]) (allL_mem_of h1)
theorem trodAll_stays {H : Type} {enc : TypeId × Value → H} {P : Program} (hl : laidOutB P = true) {W W' : World} (hb : Below W.heap.size W W') : ∀ {ts : List TypeId} {vs : List Value} {ds : List (DataW H)} {ps : List MemPlace},
    (∀ t ∈ ts, P.readableRec t = true ∧ t < P.types.size) → DataW.TrodAll enc P W 0 (fun _ => true) true ts vs ds ps → (∀ x ∈ ps, x.block < W.heap.size) → DataW.TrodAll enc P W' 0 (fun b => decide (b < W.heap.size)) true ts vs ds ps
  | [], _, _, _, _, h, _ => by obtain ⟨rfl, rfl, rfl⟩ := trodAll_nil h; exact trodAll_mk0
  | t :: ts, _, _, _, ht, h, hp => by
    obtain ⟨v, vs', d, ds', p, q, rfl, rfl, rfl, h1, h2⟩ := trodAll_cons h
    have h3 := ht t (by simp)
    exact ⟨p, q, Below.trod hl h3.1 h3.2 h1 hb (fun x hx => hp x (by simp [hx])), trodAll_stays hl hb (fun t' h' => ht t' (by simp [h'])) h2 (fun x hx => hp x (by simp [hx])), rfl⟩
theorem post_law {H : Type} {enc : TypeId × Value → H} {P : Program} {f : Func} {s : ChangeSpec} {W W' : World} {args : Array Value} {ds gs : List (DataW H)} {before : List MemPlace} {tb : TypeId} (hl : laidOutB P = true)
    (hts : (f.params.toList.all fun t => P.readableRec t && decide (t < P.types.size)) = true) (hv : s.vars = []) (hr : f.resultTypes = #[tb]) (hb : P.underlying tb = some .bool)
    (hfn : s.fn H (ds ++ gs) = { results := [.lit (.bool true)], args := ds }) (hW : DataW.Whole enc P f.params.toList s.vars false W args.toList ds gs before) (hbel : Below W.heap.size W W') :
    s.post enc P f false true false false W args (.bool true) W' := by
  have hlt := hW.lt
  have hW' := hW
  obtain ⟨p, q, hA, hV, rfl, _, _⟩ := hW
  rw [hv] at hV
  obtain ⟨rfl, rfl⟩ := trodVars_none hV
  have hts' : ∀ t ∈ f.params.toList, P.readableRec t = true ∧ t < P.types.size := fun t ht => by
    have := List.all_eq_true.1 hts t ht
    simpa using this
  refine ⟨ds, [], p ++ [], [], p, [], hW', ?_, ?_, ?_, hbel.frame _, fun h => by cases h⟩
  · rw [hfn, hr]
    exact trodAll_mk1 (shut_bool hb true)
  · rw [hfn]
    exact trodAll_stays hl hbel hts' hA (fun x hx => by simpa using hlt x (by simp [hx]))
  · rw [hfn, hv]; rfl
end Go.Proofs.YtgimodceldoniaaGreatDoor
namespace Go.Proofs.YtgimodceldoniaaGreatDoor
open Go.ChangeShapes Go.WideShapes Go.ChangeAt Go.RowKit
theorem h_et : Tryz.prog.globalNamed "errors.errorType" = some 0 := by kernel_rfl
theorem h_rt : (Tryz.prog.cutTypes.find? (·.1 == "internal/reflectlite.rtype")).map (·.2) = some 127 := by kernel_rfl
theorem h_oneRow : ((List.range 207).filter fun t => Tryz.prog.rowNamed t [101, 114, 114, 111, 114]) = [46] := by kernel_rfl
theorem h_size : Tryz.prog.types.size = 207 := by kernel_rfl
def laidL : List (String × DataW Unit) := [("errors.errorType", Rows.laid_errors_errorType)]
theorem handle_of_laid {W : World} (h : laidMetH Tryz.prog laidL W) : W.cell? ⟨0, 0, none⟩ = some handle := by
  have h' : laidMet Tryz.prog [] W ∧ handlesMet Tryz.prog laidL W := h
  obtain ⟨name, u, ty, e1, e2, e3, e4, e5⟩ := h'.2 _ (List.mem_singleton.2 rfl)
  have en : name = [101, 114, 114, 111, 114] := (Option.some.inj e1).symm
  subst en
  obtain rfl := Option.some.inj (h_rt.symm.trans e2)
  have hm : ty ∈ (List.range 207).filter fun t => Tryz.prog.rowNamed t [101, 114, 114, 111, 114] := List.mem_filter.2 ⟨List.mem_range.2 (by rw [← h_size]; exact e3), e4⟩
  rw [h_oneRow] at hm
  obtain rfl := List.mem_singleton.1 hm
  have hh : typeHandle Tryz.prog 46 = .pointer (some ⟨1, 46, none⟩) := by kernel_rfl
  rw [hh] at e5
  unfold handle
  simpa using World.var?_cell h_et e5 0
noncomputable def laidWorld (os : Os) : World :=
  let w0 := World.holding Tryz.prog os ⟨#[], #[], []⟩
  { w0 with heap := w0.heap.modify 0 fun
      | .cells _ t frozen => .cells #[handle] t frozen
      | o => o }
theorem laidWorld_met (os : Os) (args : Array Value) : laidMetH Tryz.prog laidL ((laidWorld os).forCall (fun _ _ => 0) ⟨#[], args, []⟩).memory :=
  laidMetH_of_parts (laidMet_nil _ _) (by kernel_rfl)
set_option maxRecDepth 100000 in
theorem liftedH {os : Os} {H : Type} {enc : TypeId × Value → H} {f : FuncId} {fn : Func} {s : ChangeSpec} {tb : TypeId} (started : os.Started) (noInit : Tryz.prog.inits.idxOf? f = none) (hfn : Tryz.prog.funcs[f]? = some fn)
    (witness : ∃ (w : World) (tape : Tape) (i : Input), w.os = os ∧ (w.forCall tape i).Shaped Tryz.prog ∧ i.vars = [] ∧ Input.okWide Tryz.prog (w.forCall tape i) .any w.heap.size f i ∧
      ((s.pre enc Tryz.prog fn [] false (w.forCall tape i).memory i.args ∧ laidMetH Tryz.prog laidL (w.forCall tape i).memory) ∧ sizedMet enc Tryz.prog fn (OpenSpec.ofChange s) false (w.forCall tape i).memory i.args) ∧ ({} : Assume).holds Tryz.prog (lone (Frame.enter Tryz.prog f i.args .normal) [] (w.forCall tape i)))
    (hts : (fn.params.toList.all fun t => Tryz.prog.readableRec t && decide (t < Tryz.prog.types.size)) = true) (hv : s.vars = []) (hr : fn.resultTypes = #[tb]) (hb : Tryz.prog.underlying tb = some .bool)
    (hspec : ∀ ds : List (DataW H), ds.length = fn.params.size → s.fn H ds = { results := [.lit (.bool true)], args := ds })
    (h : ∀ (W : World) (base : Nat) (args : Array Value) (ds : List (DataW H)) (ps : List MemPlace), (∀ (j : Nat) t v, fn.params[j]? = some t → args[j]? = some v → Value.okWide Tryz.prog W .any base t v) →
      DataW.TrodAll enc Tryz.prog W 0 (fun _ => true) true fn.params.toList args.toList ds ps → W.noneFrozen ps → (∃ cs E fr, (0, Obj.cells cs E fr) ∈ allL W ∧ cs[0]? = some handle) → Fn Tryz.prog f args.toList (allL W) fun v L' => v = .bool true ∧ L' = allL W) :
    ReturnsInHanded {} Tryz.checked os f .any (fun w args => (s.pre enc Tryz.prog fn [] false w args ∧ laidMetH Tryz.prog laidL w) ∧ sizedMet enc Tryz.prog fn (OpenSpec.ofChange s) false w args) (s.post enc Tryz.prog fn false true false false) := by
  refine returnsInHanded_of_change_and (C := Tryz.checked) (X := fun w _ => laidMetH Tryz.prog laidL w) (fun _ _ _ hh h => h.of_heap hh) ownOf started noInit hfn witness ?_
  intro W base args ds gs before hval hW _ _ hL _
  have hW' := hW
  obtain ⟨p, q, hA, hV, rfl, hfz, _⟩ := hW
  rw [hv] at hV
  obtain ⟨rfl, rfl⟩ := trodVars_none hV
  have hlen : ∀ {ts : List TypeId} {vs : List Value} {ds : List (DataW H)} {ps : List MemPlace}, DataW.TrodAll enc Tryz.prog W 0 (fun _ => true) true ts vs ds ps → ds.length = ts.length := by
    intro ts
    induction ts with
    | nil => intro vs ds ps h; obtain ⟨_, rfl, _⟩ := trodAll_nil h; rfl
    | cons t ts ih => intro vs ds ps h; obtain ⟨v, vs', d, ds', a, b, rfl, rfl, rfl, _, h2⟩ := trodAll_cons h; simp [ih h2]
  have hds := hspec ds (by rw [hlen hA]; simp)
  have hg := handle_of_laid hL
  have hblk : ∃ cs E fr, (0, Obj.cells cs E fr) ∈ allL W ∧ cs[0]? = some handle := by
    unfold World.cell? at hg
    cases hb : W.heap[0]? with
    | none => simp [hb] at hg
    | some o =>
      cases o with
      | cells cs E fr => exact ⟨cs, E, fr, allL_mem_of hb, by simpa [hb] using hg⟩
      | _ => simp [hb] at hg
  refine ((h W base args ds p hval hA (by simpa using hfz) hblk) W W (mem_allL W)).mono fun e W' ⟨v, L', h1, h2, h3, h4⟩ => ?_
  subst h3; subst h4
  exact ⟨_, h1, post_law laidOf hts hv hr hb (by simpa using hds) hW' (below_of_mem h2)⟩
end Go.Proofs.YtgimodceldoniaaGreatDoor
