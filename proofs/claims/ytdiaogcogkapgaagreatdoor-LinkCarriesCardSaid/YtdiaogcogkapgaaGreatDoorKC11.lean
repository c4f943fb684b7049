/-
  A part of what the last of these texts needs; by itself it proves no statement.
-/
import Derived.ProofKit
import Derived.Deep.Slices
import Derived.OpenShut
import Derived.ChangeMaps5
import Derived.Test.YtdiaogcogkapgaaGreatDoorKC10
namespace Go.Proofs.YtdiaogcogkapgaaGreatDoor
open Go.RowKit
def mkV (n : Nat) : MV := { MV.none with kind := 1, time := (n : Int) }
def mkC (n : Nat) : List Value := (mkV n).cells none 0 none 0
theorem mkC_len (n : Nat) : (mkC n).length = 24 := rfl
theorem mkC_one (n : Nat) : ((mkC n).all fun v => v.oneCell') = true := rfl
theorem mkV_ok {n : Nat} (h : n ≤ 1000000) : (mkV n).Ok := ⟨⟨(by decide : (-9223372036854775808 : Int) ≤ 1), (by decide : (1 : Int) < 9223372036854775808)⟩, i64r0, oks_zRec, ⟨by show (-9223372036854775808 : Int) ≤ (n : Int); omega, by show (n : Int) < 9223372036854775808; omega⟩, i64r0, MV.none_ok.ch, MV.none_ok.bins, MV.none_ok.ct, MV.none_ok.kh, MV.none_ok.ents⟩
theorem mkV_lim {n : Nat} (h : n ≤ 1000000) : (mkV n).Lim := ⟨mkV_ok h, (by decide : (0 : Int) ≤ 1), (by decide : (1 : Int) ≤ 4), Nat.zero_le 8, Nat.zero_le 64, rfl⟩
def dG (life seq n : Nat) : GV := ⟨life, 7, false, seq, 0, mkV n⟩
def aG (life next room : Nat) : GV := ⟨life, 7, true, next, room, MV.none⟩
theorem dG_lim {life seq n : Nat} (h1 : life ≤ 65535) (h2 : seq ≤ 1000000) (h3 : n ≤ 1000000) : (dG life seq n).Lim where
  l0 := by show (0 : Int) ≤ (life : Int); omega
  l1 := by show (life : Int) ≤ 65535; omega
  c0 := (by decide : (0 : Int) ≤ 7)
  c1 := (by decide : (7 : Int) ≤ 99)
  s0 := by show (0 : Int) ≤ (seq : Int); omega
  s1 := by show (seq : Int) < 18446744073709551616; omega
  r0 := Int.le_refl 0
  r1 := (by decide : (0 : Int) ≤ 16)
  yes := fun h => by cases h
  no := fun _ => ⟨rfl, mkV_lim h3⟩
theorem aG_lim {life next room : Nat} (h1 : life ≤ 65535) (h2 : next ≤ 1000000) (h3 : room ≤ 16) : (aG life next room).Lim where
  l0 := by show (0 : Int) ≤ (life : Int); omega
  l1 := by show (life : Int) ≤ 65535; omega
  c0 := (by decide : (0 : Int) ≤ 7)
  c1 := (by decide : (7 : Int) ≤ 99)
  s0 := by show (0 : Int) ≤ (next : Int); omega
  s1 := by show (next : Int) < 18446744073709551616; omega
  r0 := by show (0 : Int) ≤ (room : Int); omega
  r1 := by show (room : Int) ≤ 16; omega
  yes := fun _ => rfl
  no := fun h => by cases h
def dB (life seq n : Nat) : List UInt8 := (dG life seq n).bytes
def aB (life next room : Nat) : List UInt8 := (aG life next room).bytes
theorem gram_at {g : GV} (hok : g.Ok) (hb : g.m.bins = []) (he : g.m.ents = []) {L : List (Nat × Obj)} : GramAt L (g.cells none 0 none 0).toArray g none 0 none 0 := by
  refine ⟨hok, rfl, ?_, ?_, ?_, ?_, by simp [maxLen], by simp [maxLen]⟩
  · rw [hb]; exact .inl rfl
  · rw [he]; exact .inl rfl
  · rw [hb]; exact Nat.le_refl _
  · rw [he]; exact Nat.le_refl _
theorem Fn.dropR {P : Program} {f : FuncId} {args : List Value} {L : List (Nat × Obj)} {R R1 : Value → List (Nat × Obj) → Prop} (h : Fn P f args L R1) (hr : ∀ v L', R1 v L' → ∃ L2, List.Sublist L2 L' ∧ R v L2) : Fn P f args L R := fun g w hm => by
  refine (h g w hm).mono fun e w' ⟨v, L', h1, h2, h3⟩ => ?_
  obtain ⟨L2, h4, h5⟩ := hr v L' h3
  exact ⟨v, L2, h1, h2.sublist h4, h5⟩
attribute [local irreducible] Fn WC WL WR OW Qt YieldFn QW FnP FnD FnE
theorem msg22_fn {n : Nat} {L : List (Nat × Obj)} : Fn Tryz.prog 9 [.int .i64 (n : Nat)] L (fun v L' => v = .agg (mkC n).toArray ∧ L' = L) := by
  refine Fn_enter Tryz.func9 rfl Tryz.ntmps9 rfl fun gw => ?_
  repeat (first | refine RQ ?_ | (refine RE ?_; try intro _) | refine RC ?_ | refine WC_region ?_)
  exact ⟨rfl, _, _, Res1 rfl (resV_cellN rfl 0 rfl rfl), .cons _ (.refl _), rfl, rfl⟩
theorem dput_fn {life seq n : Nat} (h1 : life ≤ 65535) (h2 : seq ≤ 1000000) (h3 : n ≤ 1000000) {L : List (Nat × Obj)} : Fn Tryz.prog 27 [.agg ((dG life seq n).cells none 0 none 0).toArray] L (fun v L' => v = .tuple #[.string (bstr (dB life seq n)), .int .i64 ((0 : Nat) : Int)] ∧ L' = L) :=
  Put_lim (gram_at (dG_lim h1 h2 h3).ok rfl rfl) (dG_lim h1 h2 h3)
theorem aput_fn {life next room : Nat} (h1 : life ≤ 65535) (h2 : next ≤ 1000000) (h3 : room ≤ 16) {L : List (Nat × Obj)} : Fn Tryz.prog 27 [.agg ((aG life next room).cells none 0 none 0).toArray] L (fun v L' => v = .tuple #[.string (bstr (aB life next room)), .int .i64 ((0 : Nat) : Int)] ∧ L' = L) :=
  Put_lim (gram_at (aG_lim h1 h2 h3).ok rfl rfl) (aG_lim h1 h2 h3)
def MkL (n : Nat) (m : List Value) : Prop := ∃ a c a' c', m = (mkV n).cellsV (.slice a 0 c) (.slice a' 0 c')
theorem MkL.len {n : Nat} {m : List Value} (h : MkL n m) : m.length = 24 := by obtain ⟨a, c, a', c', rfl⟩ := h; rfl
theorem MkL.one {n : Nat} {m : List Value} (h : MkL n m) : (m.all fun v => v.oneCell') = true := by obtain ⟨a, c, a', c', rfl⟩ := h; rfl
theorem MkL.time {n : Nat} {m : List Value} (h : MkL n m) : m.toArray[8]? = some (.int .i64 (n : Nat)) := by obtain ⟨a, c, a', c', rfl⟩ := h; rfl
def GL (g : GV) (gs : Array Value) : Prop := ∃ a c a' c', gs = gcs g.life g.chan g.ack g.seq g.room (g.m.cellsV (.slice a 0 c) (.slice a' 0 c'))
theorem buf_nil {E sz : Nat} {v : Value} {T : List (Nat × Obj)} {n : Nat} {xs : List Value} (h : Buf E sz v T n xs) (hn : n = 0) : ∃ a c, v = .slice a 0 c := by
  obtain ⟨a, c, rfl, _, _⟩ := h.val
  exact ⟨a, c, by rw [hn]⟩
theorem get_fn {g : GV} (h : g.Lim) (hb : g.m.bins = []) (he : g.m.ents = []) {L : List (Nat × Obj)} (hH : HandleIn L) : Fn Tryz.prog 68 [.string (bstr g.bytes)] L (fun v L' => ∃ gs, GL g gs ∧ v = .tuple #[.agg gs, .nilIface] ∧ L' = L) := by
  refine (Get_fn (by have := h.len; omega) hH).dropR ?_
  rintro v L' (⟨g', b, T, cs', e, hG, rfl, rfl⟩ | ⟨c, e, p, e', _⟩)
  · rw [enc_prGram0 h] at e
    cases e
    obtain ⟨vb, ve, T1, T2, _, b1, b2, rfl⟩ := hG
    obtain ⟨a, c, rfl⟩ := buf_nil b1 (by rw [hb]; rfl)
    obtain ⟨a', c', rfl⟩ := buf_nil b2 (by rw [he]; rfl)
    exact ⟨L, List.sublist_append_left _ _, _, ⟨a, c, a', c', rfl⟩, rfl, rfl⟩
  · rw [enc_prGram0 h] at e'
    cases e'
theorem unless_t {e : Int} {L : List (Nat × Obj)} : Fn Tryz.prog 70 [.bool true, .int .i64 e] L (fun v L' => v = .int .i64 0 ∧ L' = L) := by
  refine Fn_enter Tryz.func70 rfl Tryz.ntmps70 rfl fun gw => ?_
  repeat (first | refine RQ ?_ | refine RC ?_ | refine WC_region ?_)
  exact ⟨rfl, _, _, Res1 rfl (resV_tmp rfl), .refl _, rfl, rfl⟩
theorem unless_f {e : Int} {L : List (Nat × Obj)} : Fn Tryz.prog 70 [.bool false, .int .i64 e] L (fun v L' => v = .int .i64 e ∧ L' = L) := by
  refine Fn_enter Tryz.func70 rfl Tryz.ntmps70 rfl fun gw => ?_
  repeat (first | refine RQ ?_ | refine RC ?_ | refine WC_region ?_)
  exact ⟨rfl, _, _, Res1 rfl (resV_tmp rfl), .refl _, rfl, rfl⟩
theorem unless_fn {t : Bool} {e : Int} {L : List (Nat × Obj)} : Fn Tryz.prog 70 [.bool t, .int .i64 e] L (fun v L' => v = .int .i64 (if t then 0 else e) ∧ L' = L) := by
  cases t
  · exact unless_f
  · exact unless_t
theorem first3_fn {fb f1 f2 f3 : Nat} [FCall Tryz.prog f1] [FCall Tryz.prog f2] [FCall Tryz.prog f3] {B1 B2 B3 : Array Value} {e1 e2 e3 : Int} {M : List (Nat × Obj)} {i : Nat} {E : TypeId} (hi : M[i]? = some (fb, .cells #[.func (.func f1) #[] B1, .func (.func f2) #[] B2, .func (.func f3) #[] B3] E (0, 0)))
    (h1 : Fn Tryz.prog f1 (#[].toList ++ [] ++ B1.toList) M (fun r L' => r = .int .i64 e1 ∧ L' = M)) (h2 : Fn Tryz.prog f2 (#[].toList ++ [] ++ B2.toList) M (fun r L' => r = .int .i64 e2 ∧ L' = M)) (h3 : Fn Tryz.prog f3 (#[].toList ++ [] ++ B3.toList) M (fun r L' => r = .int .i64 e3 ∧ L' = M)) :
    Fn Tryz.prog 25 [.slice (some ⟨fb, 0, none⟩) 3 3] M (fun r L' => r = .int .i64 (if e1 ≠ 0 then e1 else if e2 ≠ 0 then e2 else e3) ∧ L' = M) := by
  refine Fn_enter Tryz.func25 rfl Tryz.ntmps25 rfl fun gw => ?_
  repeat (first | refine RQ ?_ | refine RC ?_ | refine WG 0 ?_ | refine WG 1 ?_)
  refine WC_wk [(8, .int .i64 0), (7, .int .i64 3), (6, .slice (some ⟨fb, 0, none⟩) 3 3)] ⟨rfl, rfl, rfl, trivial⟩ ?_
  refine WC_unroll 4 (WCn_s ?_)
  repeat (first | refine RQ ?_ | refine RC ?_ | refine WG 2 ?_ | refine WG 3 ?_ | refine WG 4 ?_)
  refine WL_op rfl (OW_callv rfl rfl rfl rfl rfl h1 ?_)
  rintro _ _ ⟨rfl, rfl⟩
  by_cases z1 : e1 = 0
  rotate_left
  · have d : (e1 != 0) = true := by simpa using z1
    repeat (first | refine RQ ?_ | refine RC ?_ | refine WG 4 ?_ | refine WG 5 ?_ | refine WG 6 ?_)
    exact ⟨rfl, _, _, Res1 rfl (resV_tmp rfl), .refl _, by rw [if_pos z1], rfl⟩
  have d : (e1 != 0) = false := by simpa using z1
  repeat (first | refine RQ ?_ | refine RC ?_ | refine WG 4 ?_ | refine WG 5 ?_ | refine WG 7 ?_)
  refine WC_wk [(8, .int .i64 1), (7, .int .i64 3), (6, .slice (some ⟨fb, 0, none⟩) 3 3)] ⟨rfl, rfl, rfl, trivial⟩ ?_
  clear d
  repeat (first | refine RQ ?_ | refine RC ?_ | refine WG 2 ?_ | refine WG 3 ?_ | refine WG 4 ?_)
  refine WL_op rfl (OW_callv rfl rfl rfl rfl rfl h2 ?_)
  rintro _ _ ⟨rfl, rfl⟩
  by_cases z2 : e2 = 0
  rotate_left
  · have d : (e2 != 0) = true := by simpa using z2
    repeat (first | refine RQ ?_ | refine RC ?_ | refine WG 4 ?_ | refine WG 5 ?_ | refine WG 6 ?_)
    exact ⟨rfl, _, _, Res1 rfl (resV_tmp rfl), .refl _, by rw [if_neg (not_not_intro z1), if_pos z2], rfl⟩
  have d : (e2 != 0) = false := by simpa using z2
  repeat (first | refine RQ ?_ | refine RC ?_ | refine WG 4 ?_ | refine WG 5 ?_ | refine WG 7 ?_)
  refine WC_wk [(8, .int .i64 2), (7, .int .i64 3), (6, .slice (some ⟨fb, 0, none⟩) 3 3)] ⟨rfl, rfl, rfl, trivial⟩ ?_
  clear d
  repeat (first | refine RQ ?_ | refine RC ?_ | refine WG 2 ?_ | refine WG 3 ?_ | refine WG 4 ?_)
  refine WL_op rfl (OW_callv rfl rfl rfl rfl rfl h3 ?_)
  rintro _ _ ⟨rfl, rfl⟩
  by_cases z3 : e3 = 0
  rotate_left
  · have d : (e3 != 0) = true := by simpa using z3
    repeat (first | refine RQ ?_ | refine RC ?_ | refine WG 4 ?_ | refine WG 5 ?_ | refine WG 6 ?_)
    exact ⟨rfl, _, _, Res1 rfl (resV_tmp rfl), .refl _, by rw [if_neg (not_not_intro z1), if_neg (not_not_intro z2)], rfl⟩
  have d : (e3 != 0) = false := by simpa using z3
  repeat (first | refine RQ ?_ | refine RC ?_ | refine WG 4 ?_ | refine WG 5 ?_ | refine WG 7 ?_)
  refine WC_wk [(8, .int .i64 3), (7, .int .i64 3), (6, .slice (some ⟨fb, 0, none⟩) 3 3)] ⟨rfl, rfl, rfl, trivial⟩ ?_
  clear d
  repeat (first | refine RQ ?_ | refine RC ?_ | refine WG 2 ?_ | refine WG 8 ?_)
  exact ⟨rfl, _, _, Res1 rfl (resV_tmp rfl), .refl _, by rw [if_neg (not_not_intro z1), if_neg (not_not_intro z2), z3], rfl⟩
theorem first2_fn {fb f1 f2 : Nat} [FCall Tryz.prog f1] [FCall Tryz.prog f2] {B1 B2 : Array Value} {e2 : Int} {M : List (Nat × Obj)} {i : Nat} {E : TypeId} {R : List (Nat × Obj) → Prop} (hi : M[i]? = some (fb, .cells #[.func (.func f1) #[] B1, .func (.func f2) #[] B2] E (0, 0)))
    (h1 : Fn Tryz.prog f1 (#[].toList ++ [] ++ B1.toList) M (fun r L' => r = .int .i64 0 ∧ L' = M)) (h2 : Fn Tryz.prog f2 (#[].toList ++ [] ++ B2.toList) M (fun r L' => r = .int .i64 e2 ∧ R L')) :
    Fn Tryz.prog 25 [.slice (some ⟨fb, 0, none⟩) 2 2] M (fun r L' => r = .int .i64 e2 ∧ R L') := by
  refine Fn_enter Tryz.func25 rfl Tryz.ntmps25 rfl fun gw => ?_
  repeat (first | refine RQ ?_ | refine RC ?_ | refine WG 0 ?_ | refine WG 1 ?_)
  refine WC_wk [(8, .int .i64 0), (7, .int .i64 2), (6, .slice (some ⟨fb, 0, none⟩) 2 2)] ⟨rfl, rfl, rfl, trivial⟩ ?_
  refine WC_unroll 3 (WCn_s ?_)
  repeat (first | refine RQ ?_ | refine RC ?_ | refine WG 2 ?_ | refine WG 3 ?_ | refine WG 4 ?_)
  refine WL_op rfl (OW_callv rfl rfl rfl rfl rfl h1 ?_)
  rintro _ _ ⟨rfl, rfl⟩
  repeat (first | refine RQ ?_ | refine RC ?_ | refine WG 4 ?_ | refine WG 5 ?_ | refine WG 7 ?_)
  refine WC_wk [(8, .int .i64 1), (7, .int .i64 2), (6, .slice (some ⟨fb, 0, none⟩) 2 2)] ⟨rfl, rfl, rfl, trivial⟩ ?_
  repeat (first | refine RQ ?_ | refine RC ?_ | refine WG 2 ?_ | refine WG 3 ?_ | refine WG 4 ?_)
  refine WL_op rfl (OW_callv rfl rfl rfl rfl rfl h2 ?_)
  rintro _ L' ⟨rfl, hR⟩
  by_cases z2 : e2 = 0
  rotate_left
  · have d : (e2 != 0) = true := by simpa using z2
    repeat (first | refine RQ ?_ | refine RC ?_ | refine WG 4 ?_ | refine WG 5 ?_ | refine WG 6 ?_)
    exact ⟨rfl, _, _, Res1 rfl (resV_tmp rfl), .refl _, rfl, hR⟩
  have d : (e2 != 0) = false := by simpa using z2
  repeat (first | refine RQ ?_ | refine RC ?_ | refine WG 4 ?_ | refine WG 5 ?_ | refine WG 7 ?_)
  refine WC_wk [(8, .int .i64 2), (7, .int .i64 2), (6, .slice (some ⟨fb, 0, none⟩) 2 2)] ⟨rfl, rfl, rfl, trivial⟩ ?_
  clear d
  repeat (first | refine RQ ?_ | refine RC ?_ | refine WG 2 ?_ | refine WG 8 ?_)
  exact ⟨rfl, _, _, Res1 rfl (resV_tmp rfl), .refl _, by rw [z2], hR⟩
end Go.Proofs.YtdiaogcogkapgaaGreatDoor
namespace Go.Proofs.YtdiaogcogkapgaaGreatDoor
open Go.RowKit
def readE (g : GV) (chan life : Int) (ack : Bool) : Int := if (g.chan == chan && g.ack == ack) = true then (if (g.life == life) = true then 0 else 18) else 2
abbrev endC (chan life : Int) : Array Value := #[.int .i64 chan, .int .i64 life]
attribute [local irreducible] Fn WC WL WR OW Qt YieldFn QW FnP FnD FnE
theorem GL.at_ {g : GV} {gs : Array Value} (h : GL g gs) : gs[0]? = some (.int .i64 g.life) ∧ gs[1]? = some (.int .i64 g.chan) ∧ gs[2]? = some (.bool g.ack) ∧ gs[3]? = some (.int .u64 g.seq) ∧ gs[4]? = some (.int .i64 g.room) := by
  obtain ⟨a, c, a', c', rfl⟩ := h
  exact ⟨rfl, rfl, rfl, rfl, rfl⟩
theorem GL.size {g : GV} {gs : Array Value} (h : GL g gs) (hm : g.m.Ok) : gs.size = 29 := by
  obtain ⟨a, c, a', c', rfl⟩ := h
  rw [gcs_size, MV.cellsV_len hm]
theorem GL.one {g : GV} {gs : Array Value} (h : GL g gs) (hm : g.m.Ok) : (gs.toList.all fun v => v.oneCell') = true := by
  obtain ⟨a, c, a', c', rfl⟩ := h
  show ((_ :: _ :: _ :: _ :: _ :: g.m.cellsV _ _).all _) = true
  have := MV.cellsV_one (vb := .slice a 0 c) (ve := .slice a' 0 c') hm rfl rfl
  simp only [List.all_cons, this]; rfl
theorem GL.msg {g : GV} {gs : Array Value} (h : GL g gs) (hm : g.m.Ok) : ∃ a c a' c', gs.extract 5 (5 + 24) = (g.m.cellsV (.slice a 0 c) (.slice a' 0 c')).toArray := by
  obtain ⟨a, c, a', c', rfl⟩ := h
  refine ⟨a, c, a', c', ?_⟩
  have hl := MV.cellsV_len (vb := .slice a 0 c) (ve := .slice a' 0 c') hm
  apply Array.ext'
  unfold gcs
  simp only [Array.toList_extract, List.extract_eq_take_drop]
  show List.take 24 (List.drop 5 (_ :: _ :: _ :: _ :: _ :: g.m.cellsV _ _)) = _
  simp only [List.drop_succ_cons, List.drop_zero]
  rw [List.take_of_length_le (by omega)]
theorem read1_fn {b i : Nat} {E : TypeId} {L : List (Nat × Obj)} (hi : L[i]? = some (b, .cells #[.nilIface] E (0, 0))) : Fn Tryz.prog 69 [.pointer (some ⟨b, 0, none⟩)] L (fun v L' => v = .int .i64 0 ∧ L' = L) := by
  refine Fn_enter Tryz.func69 rfl Tryz.ntmps69 rfl fun gw => ?_
  repeat (first | refine RQ ?_ | (refine WL_op rfl ?_; (first | refine OW_callP rfl (hF := unless_t) (hk := ?_))) | refine RC ?_ | refine WC_region ?_)
  exact ⟨rfl, _, _, Res1 rfl (resV_tmp rfl), .refl _, rfl, rfl⟩
theorem read2_fn {g : GV} {gs : Array Value} {chan life : Int} {ack : Bool} {b8 b3 b5 i j k : Nat} {E8 E3 E5 : TypeId} {L : List (Nat × Obj)} (h : GL g gs) (hi : L[i]? = some (b8, .cells gs E8 (0, 0))) (hj : L[j]? = some (b3, .cells (endC chan life) E3 (0, 0))) (hk : L[k]? = some (b5, .cells #[.bool ack] E5 (0, 0))) :
    Fn Tryz.prog 71 [.pointer (some ⟨b8, 0, none⟩), .pointer (some ⟨b3, 0, none⟩), .pointer (some ⟨b5, 0, none⟩)] L (fun v L' => v = .int .i64 (if (g.chan == chan && g.ack == ack) = true then 0 else 2) ∧ L' = L) := by
  obtain ⟨_, g1, g2, _⟩ := h.at_
  refine Fn_enter Tryz.func71 rfl Tryz.ntmps71 rfl fun gw => ?_
  cases d : (g.chan == chan)
  · repeat (first | refine RQ ?_ | ((first | refine WL_op rfl ?_ | refine WL_yes (h := ?_)); (first | refine OW_callP rfl (hF := unless_t) (hk := ?_) | refine OW_callP rfl (hF := unless_fn) (hk := ?_))) | refine RC ?_ | refine WC_region ?_)
    exact ⟨rfl, _, _, Res1 rfl (resV_tmp rfl), .refl _, rfl, rfl⟩
  · repeat (first | refine RQ ?_ | ((first | refine WL_op rfl ?_ | refine WL_yes (h := ?_)); (first | refine OW_callP rfl (hF := unless_t) (hk := ?_) | refine OW_callP rfl (hF := unless_fn) (hk := ?_))) | refine RC ?_ | refine WC_region ?_)
    exact ⟨rfl, _, _, Res1 rfl (resV_tmp rfl), .refl _, rfl, rfl⟩
theorem read3_fn {g : GV} {gs : Array Value} {chan life : Int} {b8 b3 i j : Nat} {E8 E3 : TypeId} {L : List (Nat × Obj)} (h : GL g gs) (hi : L[i]? = some (b8, .cells gs E8 (0, 0))) (hj : L[j]? = some (b3, .cells (endC chan life) E3 (0, 0))) :
    Fn Tryz.prog 72 [.pointer (some ⟨b8, 0, none⟩), .pointer (some ⟨b3, 0, none⟩)] L (fun v L' => v = .int .i64 (if (g.life == life) = true then 0 else 18) ∧ L' = L) := by
  obtain ⟨g0, _⟩ := h.at_
  refine Fn_enter Tryz.func72 rfl Tryz.ntmps72 rfl fun gw => ?_
  repeat (first | refine RQ ?_ | (refine WL_op rfl ?_; (first | refine OW_callP rfl (hF := unless_t) (hk := ?_) | refine OW_callP rfl (hF := unless_fn) (hk := ?_) | refine OW_callP rfl (hF := unless_fn) (hk := ?_))) | refine RC ?_ | refine WC_region ?_)
  exact ⟨rfl, _, _, Res1 rfl (resV_tmp rfl), .refl _, rfl, rfl⟩
set_option maxHeartbeats 2000000 in
theorem read_fn {g : GV} {chan life : Int} {ack : Bool} (h : g.Lim) (hb : g.m.bins = []) (he : g.m.ents = []) {L : List (Nat × Obj)} (hH : HandleIn L) : Fn Tryz.prog 48 [.agg (endC chan life), .string (bstr g.bytes), .bool ack] L (fun v L' => ∃ gs, GL g gs ∧ v = .tuple #[.agg gs, .int .i64 (readE g chan life ack)] ∧ L' = L) := by
  have hm := h.ok.m
  refine Fn_enter Tryz.func48 rfl Tryz.ntmps48 rfl fun gw => ?_
  repeat (first | refine RQ ?_ | (refine RE ?_; try intro _) | (refine WL_op rfl ?_; (first | (refine OW_call rfl (hF := get_fn h hb he (by repeat (first | with_reducible assumption | apply HandleIn.cons))) (hk := ?_); rintro _ _ ⟨gs, hG, rfl, rfl⟩))) | refine RC ?_ | refine WG 0 ?_ | refine WG 1 ?_)
  have hsz := hG.size hm
  have hone := hG.one hm
  repeat (first | refine RQ ?_ | (refine RE ?_; try intro _) | (refine WL_op rfl ?_; (first | (refine OW_call rfl (hF := get_fn h hb he (by repeat (first | with_reducible assumption | apply HandleIn.cons))) (hk := ?_); rintro _ _ ⟨gs, hG, rfl, rfl⟩))) | refine RC ?_ | refine WG 1 ?_)
  rename_i x3 x5 x6 x8 x9
  refine WC_wk [(9, .pointer (some ⟨x9, 0, none⟩)), (8, .pointer (some ⟨x8, 0, none⟩)), (7, .int .i64 0), (6, .pointer (some ⟨x6, 0, none⟩)), (5, .pointer (some ⟨x5, 0, none⟩)), (3, .pointer (some ⟨x3, 0, none⟩))] ⟨rfl, rfl, rfl, rfl, rfl, rfl, trivial⟩ ?_
  refine WC_dropL ((x9, .cells #[.nilIface] 144 (0, 0)) :: (x8, .cells gs 93 (0, 0)) :: (x6, .cells zc93 93 (0, 0)) :: (x5, .cells #[.bool ack] 4 (0, 0)) :: (x3, .cells (endC chan life) 76 (0, 0)) :: L) (.refl _) ?_
  have hsub : [(x9, Obj.cells #[.nilIface] 144 (0, 0)), (x8, .cells gs 93 (0, 0)), (x5, .cells #[.bool ack] 4 (0, 0)), (x3, .cells (endC chan life) 76 (0, 0))].Sublist ((x9, Obj.cells #[.nilIface] 144 (0, 0)) :: (x8, .cells gs 93 (0, 0)) :: (x6, .cells zc93 93 (0, 0)) :: (x5, .cells #[.bool ack] 4 (0, 0)) :: (x3, .cells (endC chan life) 76 (0, 0)) :: L) := .cons_cons _ (.cons_cons _ (.cons _ (.cons_cons _ (.cons_cons _ (List.nil_sublist _)))))
  refine WC_draw_sub (id := 2) 8 (.calm 0 <| .calm 1 <| .calm 2 <| .calm 3 <| .must 4 <| .must 5 <| .must 6 <| .calm 7 <| .done) mixed (by kernel_rfl) (hsub) ?_
  repeat (first | refine RQr ?_ | ((first | refine WL_op rfl ?_ | refine WR_late rfl rfl rfl ?_ | refine WR_op rfl rfl ?_); (first | (refine OE ?_; try intro _)); try refine SD ?_) | refine RC ?_ | refine RU ?_ | refine WC_draw_all (id := 2) 8 (.calm 0 <| .calm 1 <| .calm 2 <| .calm 3 <| .must 4 <| .must 5 <| .must 6 <| .calm 7 <| .done) mixed (by kernel_rfl) ?_)
  refine WR_op rfl rfl (OW_buildS rfl (hk := ?_))
  intro fb
  refine ⟨sub_mem (.cons _ (.cons_cons _ (.cons_cons _ (.cons _ (.cons_cons _ (.cons_cons _ (List.nil_sublist _))))))), ?_⟩
  refine WR_op rfl rfl (OW_callP rfl (hF := first3_fn (i := 0) rfl (read1_fn (i := 1) rfl) (read2_fn (i := 2) (j := 5) (k := 4) hG rfl rfl rfl) (read3_fn (i := 2) (j := 5) hG rfl rfl)) (hk := ?_))
  refine ⟨sub_mem (.cons _ (.cons_cons _ (.cons_cons _ (.cons _ (.cons_cons _ (.cons_cons _ (List.nil_sublist _))))))), ?_⟩
  repeat (first | refine RQr ?_ | (refine OX ?_; (first | (refine OE ?_; try intro _)); try refine SD ?_) | refine RC ?_ | refine RU ?_ | refine WC_draw_all (id := 2) 8 (.calm 0 <| .calm 1 <| .calm 2 <| .calm 3 <| .must 4 <| .must 5 <| .must 6 <| .calm 7 <| .done) mixed (by kernel_rfl) ?_)
  refine ⟨rfl, _, L, Res2 rfl (resV_cellN rfl 3 rfl hsz) (resV_tmp rfl), .cons _ (.cons _ (.cons _ (.cons _ (.cons _ (.cons _ (.refl _)))))), gs, hG, ?_, rfl⟩
  congr 1
  unfold readE
  cases (g.chan == chan && g.ack == ack) <;> cases (g.life == life) <;> rfl
end Go.Proofs.YtdiaogcogkapgaaGreatDoor
namespace Go.Proofs.YtdiaogcogkapgaaGreatDoor
open Go.RowKit
theorem Fn.under {P : Program} {f : FuncId} {args : List Value} {Pf S L : List (Nat × Obj)} {Q : Value → Prop} {Z : List (Nat × Obj) → Prop} (h : Fn P f args (S ++ (Pf ++ L)) (fun r L' => Q r ∧ ∃ S', L' = S' ++ (Pf ++ L) ∧ Z S')) : Fn P f args (Pf ++ (S ++ L)) (fun r L' => Q r ∧ ∃ S', L' = Pf ++ (S' ++ L) ∧ Z S') :=
  h.perm (List.perm_append_comm_assoc ..) fun v L' ⟨h1, S', h2, h3⟩ => ⟨_, by rw [h2]; exact List.perm_append_comm_assoc .., h1, S', rfl, h3⟩
theorem Fn.underP {P : Program} {f : FuncId} {args : List Value} {Pf S L : List (Nat × Obj)} {x : Value} (h : Fn P f args (S ++ (Pf ++ L)) (fun r L' => r = x ∧ L' = S ++ (Pf ++ L))) : Fn P f args (Pf ++ (S ++ L)) (fun r L' => r = x ∧ L' = Pf ++ (S ++ L)) :=
  h.perm (List.perm_append_comm_assoc ..) fun v L' ⟨h1, h2⟩ => ⟨_, by rw [h2]; exact List.perm_append_comm_assoc .., h1, rfl⟩
def SendAt (b : Nat) (S : List (Nat × Obj)) (ms : List (List Value)) (cap base limit : Nat) : Prop := ∃ v T, S = sdO b v cap base limit :: T ∧ BufM v T ms ∧ Ms24 ms ∧ ms.length ≤ cap ∧ cap ≤ 16
section
variable {b cap base limit : Nat} {S F : List (Nat × Obj)} {ms : List (List Value)}
theorem push_sd {m : List Value} (h : SendAt b S ms cap base limit) (hm : m.length = 24) (hm1 : (m.all fun v => v.oneCell') = true) : Fn Tryz.prog 29 [.pointer (some ⟨b, 0, none⟩), .agg m.toArray] (S ++ F) (fun r L' => r = .int .i64 (if ms.length = cap then 8 else 0) ∧ ∃ S', L' = S' ++ F ∧ SendAt b S' (if ms.length = cap then ms else ms ++ [m]) cap base limit) := by
  obtain ⟨v, T, rfl, hb, hms, hl, hc⟩ := id h
  by_cases hf : ms.length = cap
  · rw [if_pos hf, if_pos hf]
    refine (spush_full (F := F) (m := m.toArray) hb hf hc).mono ?_
    rintro _ _ ⟨rfl, rfl⟩
    exact ⟨rfl, _, rfl, h⟩
  · rw [if_neg hf, if_neg hf]
    refine (spush_ok (F := F) hm hm1 hb (by omega) hc).mono ?_
    rintro _ _ ⟨rfl, v', T', hb', rfl⟩
    exact ⟨rfl, sdO b v' cap base limit :: T', rfl, v', T', rfl, hb', hms.app hm hm1, by rw [List.length_append]; simp; omega, hc⟩
theorem next_none (h : SendAt b S [] cap base limit) {k : Int} : Fn Tryz.prog 30 [.pointer (some ⟨b, 0, none⟩), .int .i64 k] (S ++ F) (fun r L' => r = .tuple #[.int .u64 0, .agg zc43, .bool false] ∧ L' = S ++ F) := by
  obtain ⟨v, T, rfl, hb, hms, hl, hc⟩ := h
  exact snext_none (F := F) hb
theorem next_sd (h : SendAt b S ms cap base limit) {k : Nat} {m : List Value} (hk : ms[k % mayN ms.length base limit]? = some m) (h1 : base ≤ 1000000000000) (h2 : limit ≤ 1000000000000) (hk2 : k ≤ 1000000) : Fn Tryz.prog 30 [.pointer (some ⟨b, 0, none⟩), .int .i64 (k : Nat)] (S ++ F) (fun r L' => r = .tuple #[.int .u64 (base + k % mayN ms.length base limit : Nat), .agg m.toArray, .bool true] ∧ L' = S ++ F) := by
  obtain ⟨v, T, rfl, hb, hms, hl, hc⟩ := h
  exact snext_ok (F := F) hb hms hk (by omega) h1 h2 hk2
theorem ack_sd (h : SendAt b S ms cap base limit) {next room : Nat} (hbb : base ≤ 1000000000000) (hn : next ≤ base + ms.length) (hr : room ≤ cap) : Fn Tryz.prog 51 [.pointer (some ⟨b, 0, none⟩), .int .u64 (next : Nat), .int .i64 (room : Nat)] (S ++ F) (fun r L' => r = .int .i64 0 ∧ ∃ S', L' = S' ++ F ∧ SendAt b S' (ms.drop (next - base)) cap (max base next) (max limit (next + room))) := by
  obtain ⟨v, T, rfl, hb, hms, hl, hc⟩ := h
  refine (sack_ok (F := F) hb hms (by omega) hbb hn hr hc).mono ?_
  rintro _ _ ⟨rfl, v', hb', rfl⟩
  exact ⟨rfl, _, rfl, v', T, rfl, hb', hms.drop _, by rw [List.length_drop]; omega, hc⟩
theorem len_sd (h : SendAt b S ms cap base limit) : Fn Tryz.prog 32 [.pointer (some ⟨b, 0, none⟩)] (S ++ F) (fun r L' => r = .int .i64 (ms.length : Nat) ∧ L' = S ++ F) := by
  obtain ⟨v, T, rfl, hb, hms, hl, hc⟩ := h
  exact slen_fn (i := 0) hb rfl
theorem left_sd (h : SendAt b S ms cap base limit) : Fn Tryz.prog 31 [.pointer (some ⟨b, 0, none⟩)] (S ++ F) (fun r L' => r = .int .i64 ((cap - ms.length : Nat) : Int) ∧ L' = S ++ F) := by
  obtain ⟨v, T, rfl, hb, hms, hl, hc⟩ := h
  exact sleft_fn (i := 0) hb hl hc rfl
end
abbrev outO (ob db : Nat) (chan life : Int) : Nat × Obj := (ob, .cells #[.int .i64 chan, .int .i64 life, .pointer (some ⟨db, 0, none⟩)] 81 (0, 0))
abbrev sndO (db sb : Nat) : Nat × Obj := (db, .cells #[.pointer (some ⟨sb, 0, none⟩)] 79 (0, 0))
def OutAt (ob : Nat) (S : List (Nat × Obj)) (chan life : Int) (ms : List (List Value)) (cap base limit : Nat) : Prop := ∃ db sb S1, S = outO ob db chan life :: sndO db sb :: S1 ∧ SendAt sb S1 ms cap base limit
def zG (n : Nat) : GV := ⟨0, 0, false, 0, 0, mkV n⟩
theorem zG_lim {n : Nat} (h : n ≤ 1000000) : (zG n).Lim := ⟨Int.le_refl 0, (by decide : (0 : Int) ≤ 65535), Int.le_refl 0, (by decide : (0 : Int) ≤ 99), Int.le_refl 0, (by decide : (0 : Int) < 18446744073709551616), Int.le_refl 0, (by decide : (0 : Int) ≤ 16), (fun h => by cases h), fun _ => ⟨rfl, mkV_lim h⟩⟩
def rG (chan life : Int) : GV := ⟨life, chan, true, 0, 0, MV.none⟩
theorem rG_lim {chan life : Int} (h0 : 0 ≤ chan) (h1 : chan ≤ 99) (h2 : 0 ≤ life) (h3 : life ≤ 65535) : (rG chan life).Lim := ⟨h2, h3, h0, h1, Int.le_refl 0, (by decide : (0 : Int) < 18446744073709551616), Int.le_refl 0, (by decide : (0 : Int) ≤ 16), (fun _ => rfl), fun h => by cases h⟩
attribute [local irreducible] Fn WC WL WR OW Qt YieldFn QW FnP FnD FnE
theorem right22_fn {chan life : Int} (h0 : 0 ≤ chan) (h1 : chan ≤ 99) (h2 : 0 ≤ life) (h3 : life ≤ 65535) {L : List (Nat × Obj)} : Fn Tryz.prog 23 [.int .i64 chan, .int .i64 life] L (fun v L' => v = .bool true ∧ L' = L) := by
  have hL := rG_lim h0 h1 h2 h3
  refine Fn_enter Tryz.func23 rfl Tryz.ntmps23 rfl fun gw => ?_
  repeat (first | refine RQ ?_ | (refine WL_op rfl ?_; (first | refine OW_callP rfl (hF := Put_lim (gram_at hL.ok rfl rfl) hL) (hk := ?_))) | refine RC ?_ | refine WC_region ?_)
  exact ⟨rfl, _, _, Res1 rfl (resV_tmp rfl), .refl _, rfl, rfl⟩
theorem newOut_fn {cap : Nat} {chan life : Int} (c1 : 1 ≤ cap) (c2 : cap ≤ 16) (h0 : 0 ≤ chan) (h1 : chan ≤ 99) (h2 : 0 ≤ life) (h3 : life ≤ 65535) {L : List (Nat × Obj)} : Fn Tryz.prog 6 [.int .i64 chan, .int .i64 life, .int .i64 (cap : Nat)] L (fun v L' => ∃ ob S, v = .pointer (some ⟨ob, 0, none⟩) ∧ L' = S ++ L ∧ OutAt ob S chan life [] cap 0 cap) := by
  refine Fn_enter Tryz.func6 rfl Tryz.ntmps6 rfl fun gw => ?_
  repeat (first | refine RQ ?_ | (refine RE ?_; try intro _) | ((first | refine WL_op rfl ?_ | refine WL_yes (h := ?_)); (first | (refine OW_call rfl (hF := snew_fn c1 c2) (hk := ?_); rintro _ _ ⟨sb, rfl, rfl⟩) | refine OW_callP rfl (hF := right22_fn h0 h1 h2 h3) (hk := ?_))) | refine RC ?_ | refine WC_region ?_)
  rename_i db ob
  exact ⟨rfl, _, _, Res1 rfl (resV_tmp rfl), .refl _, ob, [outO ob db chan life, sndO db sb, sdO sb (.slice none 0 0) cap 0 cap], rfl, rfl, db, sb, _, rfl, _, [], rfl, Buf.nil _ _, (fun m hm => by cases hm), Nat.zero_le _, c2⟩
section
variable {ob cap base limit : Nat} {chan life : Int} {S F : List (Nat × Obj)} {ms : List (List Value)}
theorem push1_fn {n x3 i : Nat} (hn : n ≤ 1000000) {E : TypeId} {L : List (Nat × Obj)} (hi : L[i]? = some (x3, .cells (mkC n).toArray E (0, 0))) : Fn Tryz.prog 26 [.pointer (some ⟨x3, 0, none⟩)] L (fun v L' => v = .int .i64 0 ∧ L' = L) := by
  have hL := zG_lim hn
  have hsz : (mkC n).toArray.size = 24 := rfl
  refine Fn_enter Tryz.func26 rfl Tryz.ntmps26 rfl fun gw => ?_
  repeat (first | refine RQ ?_ | (refine WL_op rfl ?_; (first | refine OW_callP rfl (hF := Put_lim (gram_at hL.ok rfl rfl) hL) (hk := ?_) | refine OW_callP rfl (hF := Put_lim (gram_at hL.ok rfl rfl) hL) (hk := ?_))) | refine RC ?_ | refine WC_region ?_)
  exact ⟨rfl, _, _, Res1 rfl (resV_tmp rfl), .refl _, rfl, rfl⟩
theorem push2_fn {fb x3 x2 db sb : Nat} {m : List Value} {o1 : Obj} {E2 E3 : TypeId} {S1 : List (Nat × Obj)} (hm : m.length = 24) (hm1 : (m.all fun v => v.oneCell') = true) (h : SendAt sb S1 ms cap base limit) : Fn Tryz.prog 28 [.pointer (some ⟨x2, 0, none⟩), .pointer (some ⟨x3, 0, none⟩)] ([(fb, o1), (x3, .cells m.toArray E3 (0, 0)), (x2, .cells #[.pointer (some ⟨ob, 0, none⟩)] E2 (0, 0)), outO ob db chan life, sndO db sb] ++ (S1 ++ F))
    (fun r L' => r = .int .i64 (if ms.length = cap then 8 else 0) ∧ ∃ S', L' = [(fb, o1), (x3, .cells m.toArray E3 (0, 0)), (x2, .cells #[.pointer (some ⟨ob, 0, none⟩)] E2 (0, 0)), outO ob db chan life, sndO db sb] ++ (S' ++ F) ∧ SendAt sb S' (if ms.length = cap then ms else ms ++ [m]) cap base limit) := by
  have hsz : m.toArray.size = 24 := hm
  refine Fn_enter Tryz.func28 rfl Tryz.ntmps28 rfl fun gw => ?_
  have hsub : [(fb, o1), (x3, Obj.cells m.toArray E3 (0, 0)), (x2, .cells #[.pointer (some ⟨ob, 0, none⟩)] E2 (0, 0)), outO ob db chan life, sndO db sb].Sublist ([(fb, o1), (x3, .cells m.toArray E3 (0, 0)), (x2, .cells #[.pointer (some ⟨ob, 0, none⟩)] E2 (0, 0)), outO ob db chan life, sndO db sb] ++ (S1 ++ F)) := List.sublist_append_left _ _
  repeat (first | refine RQ ?_ | refine RC ?_ | refine WG 0 ?_)
  refine WC_draw_sub (id := 1) 10 (.calm 0 <| .calm 1 <| .calm 2 <| .calm 3 <| .calm 4 <| .calm 5 <| .calm 6 <| .calm 7 <| .must 8 <| .calm 9 <| .done) mixed (by kernel_rfl) (hsub) ?_
  repeat (first | refine RQr ?_ | refine RC ?_ | refine RU ?_ | refine WC_draw_all (id := 1) 10 (.calm 0 <| .calm 1 <| .calm 2 <| .calm 3 <| .calm 4 <| .calm 5 <| .calm 6 <| .calm 7 <| .must 8 <| .calm 9 <| .done) mixed (by kernel_rfl) ?_)
  refine WR_op rfl rfl (OW_call rfl (hF := Fn.under (push_sd h hm hm1)) (hk := ?_))
  rintro _ _ ⟨rfl, S', rfl, h'⟩
  refine ⟨sub_mem (List.sublist_append_left _ _), ?_⟩
  repeat (first | refine RQr ?_ | refine RC ?_ | refine RU ?_ | refine WC_draw_all (id := 1) 10 (.calm 0 <| .calm 1 <| .calm 2 <| .calm 3 <| .calm 4 <| .calm 5 <| .calm 6 <| .calm 7 <| .must 8 <| .calm 9 <| .done) mixed (by kernel_rfl) ?_)
  exact ⟨rfl, _, _, Res1 rfl (resV_tmp rfl), .refl _, rfl, S', rfl, h'⟩
theorem push22_fn {n : Nat} (hn : n ≤ 1000000) (h : OutAt ob S chan life ms cap base limit) : Fn Tryz.prog 8 [.pointer (some ⟨ob, 0, none⟩), .agg (mkC n).toArray] (S ++ F) (fun r L' => r = .int .i64 (if ms.length = cap then 8 else 0) ∧ ∃ S', L' = S' ++ F ∧ OutAt ob S' chan life (if ms.length = cap then ms else ms ++ [mkC n]) cap base limit) := by
  obtain ⟨db, sb, S1, rfl, hS⟩ := h
  have hsz : (mkC n).toArray.size = 24 := rfl
  have hone : ((mkC n).toArray.toList.all fun v => v.oneCell') = true := rfl
  refine Fn_enter Tryz.func8 rfl Tryz.ntmps8 rfl fun gw => ?_
  repeat (first | refine RQ ?_ | (refine RE ?_; try intro _) | refine RC ?_ | refine WC_region ?_)
  rename_i x2 x3
  refine WL_op rfl (OW_buildS rfl (hk := ?_))
  intro fb
  refine WL_op rfl (OW_call rfl (hF := first2_fn (i := 0) rfl (push1_fn (i := 1) hn rfl) (push2_fn (F := F) (mkC_len n) (mkC_one n) hS)) (hk := ?_))
  rintro _ _ ⟨rfl, S', rfl, h'⟩
  repeat (first | refine RQ ?_ | (refine RE ?_; try intro _) | refine RC ?_ | refine WC_region ?_)
  exact ⟨rfl, _, _, Res1 rfl (resV_tmp rfl), .cons _ (.cons _ (.cons _ (.refl _))), rfl, outO ob db chan life :: sndO db sb :: S', rfl, db, sb, S', rfl, h'⟩
theorem len22_fn (h : OutAt ob S chan life ms cap base limit) : Fn Tryz.prog 12 [.pointer (some ⟨ob, 0, none⟩)] (S ++ F) (fun r L' => r = .int .i64 (ms.length : Nat) ∧ L' = S ++ F) := by
  obtain ⟨db, sb, S1, rfl, hS⟩ := h
  refine Fn_enter Tryz.func12 rfl Tryz.ntmps12 rfl fun gw => ?_
  repeat (first | refine RQ ?_ | (refine WL_op rfl ?_; (first | refine OW_callP rfl (hF := Fn.underP (Pf := [_, _]) (len_sd hS)) (hk := ?_))) | refine RC ?_ | refine WC_region ?_)
  exact ⟨rfl, _, _, Res1 rfl (resV_tmp rfl), .refl _, rfl, rfl⟩
theorem left22_fn (h : OutAt ob S chan life ms cap base limit) : Fn Tryz.prog 11 [.pointer (some ⟨ob, 0, none⟩)] (S ++ F) (fun r L' => r = .int .i64 ((cap - ms.length : Nat) : Int) ∧ L' = S ++ F) := by
  obtain ⟨db, sb, S1, rfl, hS⟩ := h
  refine Fn_enter Tryz.func11 rfl Tryz.ntmps11 rfl fun gw => ?_
  repeat (first | refine RQ ?_ | (refine WL_op rfl ?_; (first | refine OW_callP rfl (hF := Fn.underP (Pf := [_, _]) (left_sd hS)) (hk := ?_))) | refine RC ?_ | refine WC_region ?_)
  exact ⟨rfl, _, _, Res1 rfl (resV_tmp rfl), .refl _, rfl, rfl⟩
theorem pump_none (h : OutAt ob S chan life [] cap base limit) {k : Int} : Fn Tryz.prog 10 [.pointer (some ⟨ob, 0, none⟩), .int .i64 k] (S ++ F) (fun r L' => r = .tuple #[.string (bstr []), .bool false] ∧ L' = S ++ F) := by
  obtain ⟨db, sb, S1, rfl, hS⟩ := h
  refine Fn_enter Tryz.func10 rfl Tryz.ntmps10 rfl fun gw => ?_
  repeat (first | refine RQr ?_ | (refine OX ?_; (first | (refine OE ?_; try intro _) | refine OW_callP rfl (hF := Put_lim (gram_at hL.ok rfl rfl) hL) (hk := ?_) | refine OW_callP rfl (hF := Put_lim (gram_at hL.ok rfl rfl) hL) (hk := ?_) | refine OW_callP rfl (hF := Fn.underP (Pf := [_, _]) (next_none hS)) (hk := ?_)); try refine SD ?_) | refine RC ?_ | refine RU ?_ | refine WC_draw_all (id := 6) 19 (.calm 0 <| .calm 1 <| .calm 2 <| .calm 3 <| .calm 4 <| .calm 5 <| .calm 6 <| .calm 7 <| .calm 8 <| .calm 9 <| .calm 10 <| .calm 11 <| .calm 12 <| .must 13 <| .calm 14 <| .calm 15 <| .calm 16 <| .calm 17 <| .calm 18 <| .done) mixed (by kernel_rfl) ?_ | refine WC_region ?_)
  exact ⟨rfl, _, _, Res2 rfl (resV_tmp rfl) (resV_tmp rfl), .cons _ (.refl _), rfl, rfl⟩
set_option maxHeartbeats 1000000 in
theorem pump_fn {k n lf : Nat} (h : OutAt ob S 7 (lf : Nat) ms cap base limit) (hlf : lf ≤ 65535) (hk : ms[k % mayN ms.length base limit]? = some (mkC n)) (h1 : base + k % mayN ms.length base limit ≤ 1000000) (h2 : limit ≤ 1000000) (hk2 : k ≤ 1000000) (hn : n ≤ 1000000) : Fn Tryz.prog 10 [.pointer (some ⟨ob, 0, none⟩), .int .i64 (k : Nat)] (S ++ F) (fun r L' => r = .tuple #[.string (bstr (dB lf (base + k % mayN ms.length base limit) n)), .bool true] ∧ L' = S ++ F) := by
  obtain ⟨db, sb, S1, rfl, hS⟩ := h
  have hsz : (mkC n).toArray.size = 24 := rfl
  have hone : ((mkC n).toArray.toList.all fun v => v.oneCell') = true := rfl
  refine Fn_enter Tryz.func10 rfl Tryz.ntmps10 rfl fun gw => ?_
  have hN := Fn.underP (Pf := [outO ob db 7 lf, sndO db sb]) (L := F) (next_sd hS hk (by omega) (by omega) hk2)
  generalize base + k % mayN ms.length base limit = sq at h1 hN ⊢
  repeat (first | refine RQr ?_ | (refine OX ?_; (first | (refine OE ?_; try intro _) | refine OW_callP rfl (hF := Put_lim (gram_at hL.ok rfl rfl) hL) (hk := ?_) | refine OW_callP rfl (hF := Put_lim (gram_at hL.ok rfl rfl) hL) (hk := ?_) | refine OW_callP rfl (hF := dput_fn hlf h1 hn) (hk := ?_) | refine OW_callP rfl (hF := hN) (hk := ?_)); try refine SD ?_) | refine RC ?_ | refine RU ?_ | refine WC_draw_all (id := 6) 19 (.calm 0 <| .calm 1 <| .calm 2 <| .calm 3 <| .calm 4 <| .calm 5 <| .calm 6 <| .calm 7 <| .calm 8 <| .calm 9 <| .calm 10 <| .calm 11 <| .calm 12 <| .must 13 <| .calm 14 <| .calm 15 <| .calm 16 <| .calm 17 <| .calm 18 <| .done) mixed (by kernel_rfl) ?_ | refine WC_region ?_)
  exact ⟨rfl, _, _, Res2 rfl (resV_tmp rfl) (resV_tmp rfl), .cons _ (.refl _), rfl, rfl⟩
set_option maxHeartbeats 1000000 in
theorem come_fn {next room lf : Nat} (h : OutAt ob S 7 (lf : Nat) ms cap base limit) (hlf : lf ≤ 65535) (hn : next ≤ base + ms.length) (hn2 : next ≤ 1000000) (hr : room ≤ cap) (hbb : base ≤ 1000000) (hH : HandleIn F) : Fn Tryz.prog 21 [.pointer (some ⟨ob, 0, none⟩), .string (bstr (aB lf next room))] (S ++ F) (fun r L' => r = .int .i64 0 ∧ ∃ S', L' = S' ++ F ∧ OutAt ob S' 7 (lf : Nat) (ms.drop (next - base)) cap (max base next) (max limit (next + room))) := by
  obtain ⟨db, sb, S1, rfl, hS⟩ := h
  have hc : cap ≤ 16 := by obtain ⟨_, _, _, _, _, _, hc⟩ := hS; exact hc
  have hL := aG_lim (life := lf) (next := next) (room := room) hlf hn2 (by omega)
  have he : readE (aG lf next room) 7 lf true = 0 := by simp [readE, aG]
  refine Fn_enter Tryz.func21 rfl Tryz.ntmps21 rfl fun gw => ?_
  have hl3 : 0 + 2 ≤ (#[.int .i64 7, .int .i64 (lf : Nat), .pointer (some ⟨db, 0, none⟩)] : Array Value).size := Nat.le_of_ble_eq_true rfl
  have hx3 : (#[.int .i64 7, .int .i64 (lf : Nat), .pointer (some ⟨db, 0, none⟩)] : Array Value).extract 0 (0 + 2) = endC 7 (lf : Nat) := rfl
  repeat (first | refine RQ ?_ | (refine RE ?_; try intro _) | refine RC ?_ | refine WG 0 ?_ | refine WG 1 ?_ | refine WG 3 ?_)
  rw [hx3]
  repeat (first | refine RQ ?_ | (refine RE ?_; try intro _) | (refine WL_op rfl ?_; (first | (refine OW_call rfl (hF := read_fn (g := aG lf next room) hL rfl rfl ((hH.app S1).cons _ |>.cons _)) (hk := ?_); rintro _ _ ⟨gs, hG, rfl, rfl⟩))) | refine RC ?_ | refine WG 3 ?_)
  have hsz := hG.size hL.ok.m
  have hone := hG.one hL.ok.m
  obtain ⟨q0, q1, q2, g3, g4⟩ := hG.at_
  clear q0 q1 q2
  have g5 : gs[3]? = some (.int .u64 (next : Nat)) := g3
  have g6 : gs[4]? = some (.int .i64 (room : Nat)) := g4
  clear g3 g4
  rw [he]
  repeat (first | refine RQ ?_ | (refine RE ?_; try intro _) | (refine WL_op rfl ?_; (first | (refine OW_call rfl (hF := read_fn (g := aG lf next room) hL rfl rfl ((hH.app S1).cons _ |>.cons _)) (hk := ?_); rintro _ _ ⟨gs, hG, rfl, rfl⟩))) | refine RC ?_ | refine WG 3 ?_ | refine WG 4 ?_)
  rename_i x5
  refine WC_dropL ([(x5, .cells gs 93 (0, 0)), outO ob db 7 lf, sndO db sb] ++ (S1 ++ F)) (.refl _) ?_
  have hsub : [(x5, Obj.cells gs 93 (0, 0)), outO ob db 7 lf, sndO db sb].Sublist ([(x5, .cells gs 93 (0, 0)), outO ob db 7 lf, sndO db sb] ++ (S1 ++ F)) := List.sublist_append_left _ _
  refine WC_draw_sub (id := 6) 13 (.calm 0 <| .calm 1 <| .calm 2 <| .calm 3 <| .calm 4 <| .calm 5 <| .calm 6 <| .calm 7 <| .calm 8 <| .calm 9 <| .calm 10 <| .must 11 <| .calm 12 <| .done) mixed (by kernel_rfl) (hsub) ?_
  repeat (first | refine RQr ?_ | refine RC ?_ | refine RU ?_ | refine WC_draw_all (id := 6) 13 (.calm 0 <| .calm 1 <| .calm 2 <| .calm 3 <| .calm 4 <| .calm 5 <| .calm 6 <| .calm 7 <| .calm 8 <| .calm 9 <| .calm 10 <| .must 11 <| .calm 12 <| .done) mixed (by kernel_rfl) ?_)
  refine WR_op rfl rfl (OW_call rfl (hF := Fn.under (Pf := [(x5, Obj.cells gs 93 (0, 0)), outO ob db 7 lf, sndO db sb]) (ack_sd hS (by omega) hn hr)) (hk := ?_))
  rintro _ _ ⟨rfl, S', rfl, h'⟩
  refine ⟨sub_mem (List.sublist_append_left _ _), ?_⟩
  repeat (first | refine RQr ?_ | refine RC ?_ | refine RU ?_ | refine WC_draw_all (id := 6) 13 (.calm 0 <| .calm 1 <| .calm 2 <| .calm 3 <| .calm 4 <| .calm 5 <| .calm 6 <| .calm 7 <| .calm 8 <| .calm 9 <| .calm 10 <| .must 11 <| .calm 12 <| .done) mixed (by kernel_rfl) ?_)
  exact ⟨rfl, _, _, Res1 rfl (resV_tmp rfl), .cons _ (.refl _), rfl, outO ob db 7 lf :: sndO db sb :: S', rfl, db, sb, S', rfl, h'⟩
end
end Go.Proofs.YtdiaogcogkapgaaGreatDoor
namespace Go.Proofs.YtdiaogcogkapgaaGreatDoor
open Go.RowKit
def MkLs : List Nat → List (List Value) → Prop
  | [], [] => True
  | n :: ns, l :: ls => MkL n l ∧ MkLs ns ls
  | _, _ => False
theorem MkLs.len : ∀ {ns : List Nat} {ls : List (List Value)}, MkLs ns ls → ls.length = ns.length
  | [], [], _ => rfl
  | _ :: ns, _ :: ls, h => by rw [List.length_cons, List.length_cons, MkLs.len h.2]
  | [], _ :: _, h => h.elim
  | _ :: _, [], h => h.elim
theorem MkLs.app : ∀ {ns : List Nat} {ls : List (List Value)} {n : Nat} {l : List Value}, MkLs ns ls → MkL n l → MkLs (ns ++ [n]) (ls ++ [l])
  | [], [], _, _, _, h => ⟨h, trivial⟩
  | _ :: _, _ :: _, _, _, h, h1 => ⟨h.1, MkLs.app h.2 h1⟩
  | [], _ :: _, _, _, h, _ => h.elim
  | _ :: _, [], _, _, h, _ => h.elim
theorem MkLs.all : ∀ {ns : List Nat} {ls : List (List Value)}, MkLs ns ls → ∀ m ∈ ls.map List.toArray, m.size = 24 ∧ (m.toList.all fun v => v.oneCell') = true
  | [], [], _, m, hm => by simp at hm
  | _ :: ns, l :: ls, h, m, hm => by
    rcases List.mem_cons.1 hm with rfl | hm
    · exact ⟨h.1.len, h.1.one⟩
    · exact MkLs.all h.2 m hm
  | [], _ :: _, h, _, _ => h.elim
  | _ :: _, [], h, _, _ => h.elim
def dataE (seq next len cap : Nat) : Int := if seq < next then 18 else if next < seq then 7 else if len = cap then 8 else 0
theorem Fn.under3 {P : Program} {f : FuncId} {args : List Value} {Pf S L : List (Nat × Obj)} {Q : Value → Array Value → Prop} (h : Fn P f args (S ++ (Pf ++ L)) (fun r L' => ∃ m, Q r m ∧ L' = S ++ (Pf ++ L))) : Fn P f args (Pf ++ (S ++ L)) (fun r L' => ∃ m, Q r m ∧ L' = Pf ++ (S ++ L)) :=
  h.perm (List.perm_append_comm_assoc ..) fun v L' ⟨m, h1, h2⟩ => ⟨_, by rw [h2]; exact List.perm_append_comm_assoc .., m, h1, rfl⟩
def RecvAt (rb : Nat) (S : List (Nat × Obj)) (ns : List Nat) (cap next : Nat) : Prop := ∃ cs first ls refused, S = [(rb, .cells cs 126 (0, 0))] ∧ RecvC cs cap first (ls.map List.toArray) next refused ∧ MkLs ns ls
section
variable {rb cap next : Nat} {S F : List (Nat × Obj)} {ns : List Nat}
theorem RecvAt.bounds (h : RecvAt rb S ns cap next) : ns.length ≤ cap ∧ 1 ≤ cap ∧ cap ≤ 16 := by
  obtain ⟨cs, first, ls, refused, rfl, hc, hl⟩ := h
  have := hc.len
  rw [List.length_map, hl.len] at this
  exact ⟨this, hc.cap1, hc.cap16⟩
theorem data_rv (h : RecvAt rb S ns cap next) {seq n : Nat} {m : List Value} (hm : MkL n m) (hn : next ≤ 1000000) : Fn Tryz.prog 49 [.pointer (some ⟨rb, 0, none⟩), .int .u64 (seq : Nat), .agg m.toArray] (S ++ F) (fun r L' => r = .int .i64 (dataE seq next ns.length cap) ∧ ∃ S', L' = S' ++ F ∧ RecvAt rb S' (if dataE seq next ns.length cap = 0 then ns ++ [n] else ns) cap (if dataE seq next ns.length cap = 0 then next + 1 else next)) := by
  obtain ⟨cs, first, ls, refused, rfl, hc, hl⟩ := h
  have hlen := hl.len
  have hle := hc.len
  rw [List.length_map, hlen] at hle
  by_cases h0 : seq = next ∧ ns.length < cap
  · obtain ⟨rfl, hroom⟩ := h0
    have e : dataE seq seq ns.length cap = 0 := by unfold dataE; rw [if_neg (by omega), if_neg (by omega), if_neg (by omega)]
    rw [e, if_pos rfl, if_pos rfl]
    refine (data_taken (L := F) hc m.toArray hm.len hm.one (by rw [List.length_map, hlen]; exact hroom) (by omega)).mono ?_
    rintro _ _ ⟨rfl, cs', rfl, hc'⟩
    refine ⟨rfl, [(rb, .cells cs' 126 (0, 0))], rfl, cs', first, ls ++ [m], refused, rfl, ?_, hl.app hm⟩
    rw [List.map_append]
    exact hc'
  · obtain ⟨e, he, hne⟩ : ∃ e : Int, dataE seq next ns.length cap = e ∧ (((seq : Int) < next ∧ e = 18) ∨ ((next : Int) < seq ∧ e = 7) ∨ ((seq : Int) = next ∧ (ls.map List.toArray).length = cap ∧ e = 8)) := by
      refine ⟨_, rfl, ?_⟩
      unfold dataE
      rw [List.length_map, hlen]
      by_cases h1 : seq < next
      · rw [if_pos h1]; exact .inl ⟨by omega, rfl⟩
      · rw [if_neg h1]
        by_cases h2 : next < seq
        · rw [if_pos h2]; exact .inr (.inl ⟨by omega, rfl⟩)
        · rw [if_neg h2, if_pos (by omega)]; exact .inr (.inr ⟨by omega, by omega, rfl⟩)
    have hz : ¬ e = 0 := by omega
    rw [he, if_neg hz, if_neg hz]
    refine (data_refused (L := F) hc (seq : Int) m.toArray e hne).mono ?_
    rintro _ _ ⟨rfl, rfl⟩
    exact ⟨rfl, _, rfl, _, first, ls, _, rfl, hc.refused _, hl⟩
theorem answer_rv (h : RecvAt rb S ns cap next) : Fn Tryz.prog 50 [.pointer (some ⟨rb, 0, none⟩)] (S ++ F) (fun r L' => r = .tuple #[.int .u64 (next : Nat), .int .i64 ((cap - ns.length : Nat) : Int)] ∧ L' = S ++ F) := by
  have hb := h.bounds
  obtain ⟨cs, first, ls, refused, rfl, hc, hl⟩ := h
  have := answer_fn (b := rb) (L := F) hc
  rw [List.length_map, hl.len, show ((cap : Int) - (ns.length : Int)) = ((cap - ns.length : Nat) : Int) by omega] at this
  exact this
theorem len_rv (h : RecvAt rb S ns cap next) : Fn Tryz.prog 34 [.pointer (some ⟨rb, 0, none⟩)] (S ++ F) (fun r L' => r = .int .i64 (ns.length : Nat) ∧ L' = S ++ F) := by
  obtain ⟨cs, first, ls, refused, rfl, hc, hl⟩ := h
  have := len_fn (b := rb) (L := F) hc
  rw [List.length_map, hl.len] at this
  exact this
def HeadIs (ns : List Nat) (r : Value) (m : Array Value) : Prop := m.size = 24 ∧ (m.toList.all fun v => v.oneCell') = true ∧ (∀ n, ns[0]? = some n → m[8]? = some (.int .i64 (n : Nat))) ∧ r = .tuple #[.agg m, .bool (!ns.isEmpty)]
theorem head_rv (h : RecvAt rb S ns cap next) : Fn Tryz.prog 33 [.pointer (some ⟨rb, 0, none⟩)] (S ++ F) (fun r L' => ∃ m : Array Value, HeadIs ns r m ∧ L' = S ++ F) := by
  obtain ⟨cs, first, ls, refused, rfl, hc, hl⟩ := h
  refine (head_fn hc hl.all F).mono ?_
  rintro _ _ ⟨rfl, rfl⟩
  match ns, ls, hl with
  | [], [], _ => exact ⟨_, ⟨rfl, rfl, (fun n h => by simp at h), rfl⟩, rfl⟩
  | n :: ns, l :: ls, hl => exact ⟨l.toArray, ⟨hl.1.len, hl.1.one, (fun n' h => (by simpa using h : n = n') ▸ hl.1.time), rfl⟩, rfl⟩
theorem pop_rv {n : Nat} (h : RecvAt rb S (n :: ns) cap next) : Fn Tryz.prog 35 [.pointer (some ⟨rb, 0, none⟩)] (S ++ F) (fun r L' => r = .int .i64 0 ∧ ∃ S', L' = S' ++ F ∧ RecvAt rb S' ns cap next) := by
  obtain ⟨cs, first, ls, refused, rfl, hc, hl⟩ := h
  match ls, hl, hc with
  | l :: ls, hl, hc =>
    refine (pop_ok (L := F) hc).mono ?_
    rintro _ _ ⟨rfl, cs', first', rfl, hc'⟩
    exact ⟨rfl, [(rb, .cells cs' 126 (0, 0))], rfl, cs', first', ls, refused, rfl, hc', hl.2⟩
theorem pop_rv0 (h : RecvAt rb S [] cap next) : Fn Tryz.prog 35 [.pointer (some ⟨rb, 0, none⟩)] (S ++ F) (fun r L' => r = .int .i64 9 ∧ L' = S ++ F) := by
  obtain ⟨cs, first, ls, refused, rfl, hc, hl⟩ := h
  match ls, hl, hc with
  | [], _, hc => exact pop_empty (L := F) hc
end
abbrev linO (ib rb2 : Nat) (chan life : Int) : Nat × Obj := (ib, .cells #[.int .i64 chan, .int .i64 life, .pointer (some ⟨rb2, 0, none⟩)] 88 (0, 0))
abbrev rcvO (rb2 rb : Nat) : Nat × Obj := (rb2, .cells #[.pointer (some ⟨rb, 0, none⟩)] 86 (0, 0))
def InAt (ib : Nat) (S : List (Nat × Obj)) (chan life : Int) (ns : List Nat) (cap next : Nat) : Prop := ∃ rb2 rb S1, S = linO ib rb2 chan life :: rcvO rb2 rb :: S1 ∧ RecvAt rb S1 ns cap next
attribute [local irreducible] Fn WC WL WR OW Qt YieldFn QW FnP FnD FnE
theorem newIn_fn {cap : Nat} {chan life : Int} (c1 : 1 ≤ cap) (c2 : cap ≤ 16) (h0 : 0 ≤ chan) (h1 : chan ≤ 99) (h2 : 0 ≤ life) (h3 : life ≤ 65535) {L : List (Nat × Obj)} : Fn Tryz.prog 7 [.int .i64 chan, .int .i64 life, .int .i64 (cap : Nat)] L (fun v L' => ∃ ib S, v = .pointer (some ⟨ib, 0, none⟩) ∧ L' = S ++ L ∧ InAt ib S chan life [] cap 0) := by
  refine Fn_enter Tryz.func7 rfl Tryz.ntmps7 rfl fun gw => ?_
  repeat (first | refine RQ ?_ | (refine RE ?_; try intro _) | ((first | refine WL_op rfl ?_ | refine WL_yes (h := ?_)); (first | (refine OW_call rfl (hF := new_fn c1 c2 _) (hk := ?_); rintro _ _ ⟨rb, rfl, cs, rfl, hc⟩) | refine OW_callP rfl (hF := right22_fn h0 h1 h2 h3) (hk := ?_))) | refine RC ?_ | refine WC_region ?_)
  rename_i rb2 ib
  exact ⟨rfl, _, _, Res1 rfl (resV_tmp rfl), .refl _, ib, [linO ib rb2 chan life, rcvO rb2 rb, (rb, .cells cs 126 (0, 0))], rfl, rfl, rb2, rb, _, rfl, cs, 0, [], 0, rfl, hc, trivial⟩
section
variable {ib cap next : Nat} {chan life : Int} {S F : List (Nat × Obj)} {ns : List Nat}
theorem ilen_fn (h : InAt ib S chan life ns cap next) : Fn Tryz.prog 14 [.pointer (some ⟨ib, 0, none⟩)] (S ++ F) (fun r L' => r = .int .i64 (ns.length : Nat) ∧ L' = S ++ F) := by
  obtain ⟨rb2, rb, S1, rfl, hS⟩ := h
  refine Fn_enter Tryz.func14 rfl Tryz.ntmps14 rfl fun gw => ?_
  repeat (first | refine RQ ?_ | (refine WL_op rfl ?_; (first | refine OW_callP rfl (hF := Fn.underP (Pf := [_, _]) (len_rv hS)) (hk := ?_))) | refine RC ?_ | refine WC_region ?_)
  exact ⟨rfl, _, _, Res1 rfl (resV_tmp rfl), .refl _, rfl, rfl⟩
theorem ipop_fn {n : Nat} (h : InAt ib S chan life (n :: ns) cap next) : Fn Tryz.prog 15 [.pointer (some ⟨ib, 0, none⟩)] (S ++ F) (fun r L' => r = .int .i64 0 ∧ ∃ S', L' = S' ++ F ∧ InAt ib S' chan life ns cap next) := by
  obtain ⟨rb2, rb, S1, rfl, hS⟩ := h
  refine Fn_enter Tryz.func15 rfl Tryz.ntmps15 rfl fun gw => ?_
  repeat (first | refine RQ ?_ | (refine WL_op rfl ?_; (first | (refine OW_call rfl (hF := Fn.under (Pf := [_, _]) (pop_rv hS)) (hk := ?_); rintro _ _ ⟨rfl, S', rfl, h'⟩))) | refine RC ?_ | refine WC_region ?_)
  exact ⟨rfl, _, _, Res1 rfl (resV_tmp rfl), .refl _, rfl, linO ib rb2 chan life :: rcvO rb2 rb :: S', rfl, rb2, rb, S', rfl, h'⟩
theorem ipop0_fn (h : InAt ib S chan life [] cap next) : Fn Tryz.prog 15 [.pointer (some ⟨ib, 0, none⟩)] (S ++ F) (fun r L' => r = .int .i64 9 ∧ L' = S ++ F) := by
  obtain ⟨rb2, rb, S1, rfl, hS⟩ := h
  refine Fn_enter Tryz.func15 rfl Tryz.ntmps15 rfl fun gw => ?_
  repeat (first | refine RQ ?_ | (refine WL_op rfl ?_; (first | (refine OW_call rfl (hF := Fn.under (Pf := [_, _]) (pop_rv hS)) (hk := ?_); rintro _ _ ⟨rfl, S', rfl, h'⟩) | refine OW_callP rfl (hF := Fn.underP (Pf := [_, _]) (pop_rv0 hS)) (hk := ?_))) | refine RC ?_ | refine WC_region ?_)
  exact ⟨rfl, _, _, Res1 rfl (resV_tmp rfl), .refl _, rfl, rfl⟩
theorem ihead_fn (h : InAt ib S chan life ns cap next) : Fn Tryz.prog 13 [.pointer (some ⟨ib, 0, none⟩)] (S ++ F) (fun r L' => ∃ m : Array Value, HeadIs ns r m ∧ L' = S ++ F) := by
  obtain ⟨rb2, rb, S1, rfl, hS⟩ := h
  refine Fn_enter Tryz.func13 rfl Tryz.ntmps13 rfl fun gw => ?_
  repeat (first | refine RQ ?_ | (refine RE ?_; try intro _) | (refine WL_op rfl ?_; (first | (refine OW_call rfl (hF := Fn.under3 (Pf := [_, _, _]) (head_rv hS)) (hk := ?_); rintro _ _ ⟨m, ⟨hm, hm1, ht, rfl⟩, rfl⟩))) | refine RC ?_ | refine WC_region ?_)
  exact ⟨rfl, _, _, Res2 rfl (resV_cellN rfl 0 rfl hm) (resV_tmp rfl), .cons _ (.refl _), m, ⟨hm, hm1, ht, rfl⟩, rfl⟩
theorem come_old {seq n lf lo : Nat} (h : InAt ib S 7 (lf : Nat) ns cap next) (hlo : lo ≤ 65535) (hne : lo ≠ lf) (hs : seq ≤ 1000000) (hn : n ≤ 1000000) (hH : HandleIn F) : Fn Tryz.prog 20 [.pointer (some ⟨ib, 0, none⟩), .string (bstr (dB lo seq n))] (S ++ F) (fun r L' => r = .tuple #[.string (bstr []), .int .i64 18] ∧ L' = S ++ F) := by
  obtain ⟨rb2, rb, S1, rfl, hS⟩ := h
  have hL := dG_lim (life := lo) (seq := seq) (n := n) hlo hs hn
  have he : readE (dG lo seq n) 7 lf false = 18 := by
    have : ((lo : Int) == (lf : Int)) = false := by simp; omega
    simp [readE, dG, this]
  have hl3 : 0 + 2 ≤ (#[.int .i64 7, .int .i64 (lf : Nat), .pointer (some ⟨rb2, 0, none⟩)] : Array Value).size := Nat.le_of_ble_eq_true rfl
  have hx3 : (#[.int .i64 7, .int .i64 (lf : Nat), .pointer (some ⟨rb2, 0, none⟩)] : Array Value).extract 0 (0 + 2) = endC 7 (lf : Nat) := rfl
  refine Fn_enter Tryz.func20 rfl Tryz.ntmps20 rfl fun gw => ?_
  repeat (first | refine RQ ?_ | (refine RE ?_; try intro _) | refine RC ?_ | refine WG 0 ?_ | refine WG 1 ?_ | refine WG 3 ?_)
  rw [hx3]
  repeat (first | refine RQ ?_ | (refine RE ?_; try intro _) | (refine WL_op rfl ?_; (first | (refine OW_call rfl (hF := read_fn (g := dG lo seq n) hL rfl rfl ((hH.app S1).cons _ |>.cons _)) (hk := ?_); rintro _ _ ⟨gs, hG, rfl, rfl⟩))) | refine RC ?_ | refine WG 3 ?_)
  have hsz := hG.size hL.ok.m
  have hone := hG.one hL.ok.m
  rw [he]
  repeat (first | refine RQ ?_ | (refine RE ?_; try intro _) | (refine WL_op rfl ?_; (first | (refine OW_call rfl (hF := read_fn (g := dG lo seq n) hL rfl rfl ((hH.app S1).cons _ |>.cons _)) (hk := ?_); rintro _ _ ⟨gs, hG, rfl, rfl⟩))) | refine RC ?_ | refine WG 3 ?_ | refine WG 4 ?_ | refine WG 5 ?_)
  exact ⟨rfl, _, _, Res2 rfl (resV_tmp rfl) (resV_tmp rfl), .cons _ (.refl _), rfl, rfl⟩
set_option maxHeartbeats 2000000 in
theorem icome_fn {seq n lf : Nat} (h : InAt ib S 7 (lf : Nat) ns cap next) (hlf : lf ≤ 65535) (hs : seq ≤ 1000000) (hn : n ≤ 1000000) (hx : next ≤ 900000) (hH : HandleIn F) : Fn Tryz.prog 20 [.pointer (some ⟨ib, 0, none⟩), .string (bstr (dB lf seq n))] (S ++ F)
    (fun r L' => ∃ ns' next', (ns' = if dataE seq next ns.length cap = 0 then ns ++ [n] else ns) ∧ (next' = if dataE seq next ns.length cap = 0 then next + 1 else next) ∧ r = .tuple #[.string (bstr (aB lf next' (cap - ns'.length))), .int .i64 (dataE seq next ns.length cap)] ∧ ∃ S', L' = S' ++ F ∧ InAt ib S' 7 (lf : Nat) ns' cap next') := by
  obtain ⟨rb2, rb, S1, rfl, hS⟩ := h
  have hL := dG_lim (life := lf) (seq := seq) (n := n) hlf hs hn
  have he : readE (dG lf seq n) 7 lf false = 0 := by simp [readE, dG]
  have hl3 : 0 + 2 ≤ (#[.int .i64 7, .int .i64 (lf : Nat), .pointer (some ⟨rb2, 0, none⟩)] : Array Value).size := Nat.le_of_ble_eq_true rfl
  have hx3 : (#[.int .i64 7, .int .i64 (lf : Nat), .pointer (some ⟨rb2, 0, none⟩)] : Array Value).extract 0 (0 + 2) = endC 7 (lf : Nat) := rfl
  refine Fn_enter Tryz.func20 rfl Tryz.ntmps20 rfl fun gw => ?_
  repeat (first | refine RQ ?_ | (refine RE ?_; try intro _) | (refine WL_op rfl ?_; (first | (refine OW_call rfl (hF := read_fn (g := dG lo seq n) hL rfl rfl ((hH.app S1).cons _ |>.cons _)) (hk := ?_); rintro _ _ ⟨gs, hG, rfl, rfl⟩))) | refine RC ?_ | refine WG 0 ?_ | refine WG 1 ?_ | refine WG 3 ?_)
  rw [hx3]
  repeat (first | refine RQ ?_ | (refine RE ?_; try intro _) | (refine WL_op rfl ?_; (first | (refine OW_call rfl (hF := read_fn (g := dG lf seq n) hL rfl rfl ((hH.app S1).cons _ |>.cons _)) (hk := ?_); rintro _ _ ⟨gs, hG, rfl, rfl⟩))) | refine RC ?_ | refine WG 3 ?_)
  have hsz := hG.size hL.ok.m
  have hone := hG.one hL.ok.m
  rw [he]
  obtain ⟨q0, q1, q2, g3, q4⟩ := hG.at_
  have g5 : gs[3]? = some (.int .u64 (seq : Nat)) := g3
  clear q0 q1 q2 g3 q4
  repeat (first | refine RQ ?_ | (refine RE ?_; try intro _) | (refine WL_op rfl ?_; (first | (refine OW_call rfl (hF := read_fn (g := dG lf seq n) hL rfl rfl ((hH.app S1).cons _ |>.cons _)) (hk := ?_); rintro _ _ ⟨gs, hG, rfl, rfl⟩))) | refine RC ?_ | refine WG 3 ?_ | refine WG 4 ?_)
  rename_i x6
  have hx29 : 5 + 24 ≤ gs.size := by rw [hsz]; decide
  obtain ⟨a1, c1, a2, c2, hmsg⟩ := hG.msg hL.ok.m
  obtain ⟨m, hm⟩ : ∃ m, m = (dG lf seq n).m.cellsV (.slice a1 0 c1) (.slice a2 0 c2) := ⟨_, rfl⟩
  rw [← hm] at hmsg
  have hmk : MkL n m := ⟨a1, c1, a2, c2, hm⟩
  clear hm
  refine WC_dropL ([(x6, .cells gs 93 (0, 0)), linO ib rb2 7 lf, rcvO rb2 rb] ++ (S1 ++ F)) (.refl _) ?_
  have hsub : [(x6, Obj.cells gs 93 (0, 0)), linO ib rb2 7 lf, rcvO rb2 rb].Sublist ([(x6, .cells gs 93 (0, 0)), linO ib rb2 7 lf, rcvO rb2 rb] ++ (S1 ++ F)) := List.sublist_append_left _ _
  refine WC_draw_sub (id := 6) 13 (.calm 0 <| .calm 1 <| .calm 2 <| .calm 3 <| .calm 4 <| .calm 5 <| .calm 6 <| .calm 7 <| .calm 8 <| .calm 9 <| .calm 10 <| .must 11 <| .calm 12 <| .done) mixed (by kernel_rfl) (hsub) ?_
  repeat (first | refine RQr ?_ | refine RC ?_ | refine RU ?_ | refine WC_draw_all (id := 6) 13 (.calm 0 <| .calm 1 <| .calm 2 <| .calm 3 <| .calm 4 <| .calm 5 <| .calm 6 <| .calm 7 <| .calm 8 <| .calm 9 <| .calm 10 <| .must 11 <| .calm 12 <| .done) mixed (by kernel_rfl) ?_)
  rw [hmsg]
  refine WR_op rfl rfl (OW_call rfl (hF := Fn.under (Pf := [(x6, Obj.cells gs 93 (0, 0)), linO ib rb2 7 lf, rcvO rb2 rb]) (data_rv hS hmk (by omega))) (hk := ?_))
  rintro _ _ ⟨rfl, S', rfl, h'⟩
  refine ⟨sub_mem (List.sublist_append_left _ _), ?_⟩
  obtain ⟨ns', ens⟩ : ∃ x, x = if dataE seq next ns.length cap = 0 then ns ++ [n] else ns := ⟨_, rfl⟩
  obtain ⟨next', enx⟩ : ∃ x, x = if dataE seq next ns.length cap = 0 then next + 1 else next := ⟨_, rfl⟩
  rw [← ens, ← enx] at h'
  have hnx : next' ≤ 1000000 := by rw [enx]; split <;> omega
  have hbd := h'.bounds
  repeat (first | refine RQr ?_ | (refine OX ?_; (first | refine OW_callP rfl (hF := Fn.underP (Pf := [_, _, _]) (answer_rv h')) (hk := ?_) | refine OW_callP rfl (hF := aput_fn (life := lf) (next := next') (room := cap - ns'.length) hlf hnx (by omega)) (hk := ?_)); try refine SD ?_) | refine RC ?_ | refine RU ?_ | refine WC_draw_all (id := 6) 13 (.calm 0 <| .calm 1 <| .calm 2 <| .calm 3 <| .calm 4 <| .calm 5 <| .calm 6 <| .calm 7 <| .calm 8 <| .calm 9 <| .calm 10 <| .must 11 <| .calm 12 <| .done) mixed (by kernel_rfl) ?_ | refine WC_draw_all (id := 8) 18 (.calm 0 <| .calm 1 <| .calm 2 <| .calm 3 <| .calm 4 <| .calm 5 <| .calm 6 <| .calm 7 <| .calm 8 <| .calm 9 <| .calm 10 <| .calm 11 <| .calm 12 <| .must 13 <| .calm 14 <| .calm 15 <| .calm 16 <| .calm 17 <| .done) mixed (by kernel_rfl) ?_ | refine WG 7 ?_ | refine WG 9 ?_)
  exact ⟨rfl, _, _, Res2 rfl (resV_tmp rfl) (resV_tmp rfl), .cons _ (.refl _), ns', next', ens, enx, rfl, linO ib rb2 7 lf :: rcvO rb2 rb :: S', rfl, rb2, rb, S', rfl, h'⟩
end
end Go.Proofs.YtdiaogcogkapgaaGreatDoor
namespace Go.Proofs.YtdiaogcogkapgaaGreatDoor
open Go.RowKit
structure Pst where
  base : Nat
  pushed : Nat
  next : Nat
  popped : Nat
  limit : Nat
structure Pst.Ok (cap : Nat) (s : Pst) : Prop where
  c1 : 1 ≤ cap
  c2 : cap ≤ 16
  h1 : s.popped ≤ s.next
  h2 : s.base ≤ s.next
  h3 : s.next ≤ s.pushed
  h4 : s.pushed ≤ s.base + cap
  h5 : s.next ≤ s.popped + cap
  h6 : s.pushed ≤ 1000
  h7 : s.limit ≤ 2000
inductive Way where
  | old (q n : Nat)
  | dat (k : Nat)
  | ack (x r : Nat)
def Way.s : Way → List UInt8
  | .old q n => dB 3 q n
  | .dat k => dB 4 k k
  | .ack x r => aB 4 x r
def Way.out : Way → Bool
  | .ack _ _ => true
  | _ => false
def Way.c (w : Way) : List Value := [.string (bstr w.s), .bool w.out]
def Pst.go (cap : Nat) (s : Pst) : Way → Pst
  | .old _ _ => s
  | .dat k => if dataE k s.next (s.next - s.popped) cap = 0 then { s with next := s.next + 1 } else s
  | .ack x r => { s with base := max s.base x, limit := max s.limit (x + r) }
def Pst.backs (cap : Nat) (s : Pst) : Way → List Way
  | .dat k => [.ack (s.go cap (.dat k)).next (cap - ((s.go cap (.dat k)).next - s.popped))]
  | _ => []
def Way.Ok (cap : Nat) (s : Pst) : Way → Prop
  | .old q n => q ≤ 1000 ∧ n ≤ 10000
  | .dat k => k < s.pushed
  | .ack x r => x ≤ s.next ∧ r ≤ cap
theorem dataE_zero {q n l c : Nat} : dataE q n l c = 0 ↔ q = n ∧ l ≠ c := by
  unfold dataE
  by_cases h1 : q < n
  · rw [if_pos h1]; constructor
    · intro h; omega
    · intro h; omega
  · rw [if_neg h1]
    by_cases h2 : n < q
    · rw [if_pos h2]; constructor
      · intro h; omega
      · intro h; omega
    · rw [if_neg h2]
      by_cases h3 : l = c
      · rw [if_pos h3]; constructor
        · intro h; omega
        · intro h; omega
      · rw [if_neg h3]; constructor
        · intro _; omega
        · intro _; rfl
theorem dataE_in (q n l c : Nat) : dataE q n l c = 0 ∨ dataE q n l c = 18 ∨ dataE q n l c = 7 ∨ dataE q n l c = 8 := by
  unfold dataE
  split
  · simp
  · split
    · simp
    · split <;> simp
theorem Pst.go_pp (cap : Nat) (s : Pst) (w : Way) : (s.go cap w).pushed = s.pushed ∧ (s.go cap w).popped = s.popped ∧ s.next ≤ (s.go cap w).next := by
  cases w with
  | old q n => exact ⟨rfl, rfl, Nat.le_refl _⟩
  | dat k =>
    simp only [Pst.go]
    split
    · exact ⟨rfl, rfl, Nat.le_succ _⟩
    · exact ⟨rfl, rfl, Nat.le_refl _⟩
  | ack x r => exact ⟨rfl, rfl, Nat.le_refl _⟩
theorem Way.Ok.mono {cap : Nat} {s s' : Pst} {w : Way} (h : w.Ok cap s) (h1 : s.pushed ≤ s'.pushed) (h2 : s.next ≤ s'.next) : w.Ok cap s' := by
  cases w with
  | old q n => exact h
  | dat k => exact Nat.lt_of_lt_of_le h h1
  | ack x r => exact ⟨Nat.le_trans h.1 h2, h.2⟩
theorem Pst.go_ok {cap : Nat} {s : Pst} {w : Way} (h : s.Ok cap) (hw : w.Ok cap s) : (s.go cap w).Ok cap ∧ ∀ w' ∈ s.backs cap w, w'.Ok cap (s.go cap w) := by
  have a1 := h.c1; have a2 := h.c2; have a3 := h.h1; have a4 := h.h2; have a5 := h.h3; have a6 := h.h4; have a7 := h.h5; have a8 := h.h6; have a9 := h.h7
  cases w with
  | old q n => exact ⟨h, fun w' hw' => by cases hw'⟩
  | dat k =>
    have hk : k < s.pushed := hw
    have key : (s.go cap (.dat k)).Ok cap := by
      simp only [Pst.go]
      split
      · rename_i he
        obtain ⟨e1, e2⟩ := dataE_zero.1 he
        exact ⟨a1, a2, by show s.popped ≤ s.next + 1; omega, by show s.base ≤ s.next + 1; omega, by show s.next + 1 ≤ s.pushed; omega, a6, by show s.next + 1 ≤ s.popped + cap; omega, a8, a9⟩
      · exact h
    refine ⟨key, fun w' hw' => ?_⟩
    obtain rfl : w' = _ := by simpa [Pst.backs] using hw'
    exact ⟨Nat.le_refl _, Nat.sub_le _ _⟩
  | ack x r =>
    obtain ⟨hx, hr⟩ : x ≤ s.next ∧ r ≤ cap := hw
    refine ⟨⟨a1, a2, a3, ?_, a5, ?_, a7, a8, ?_⟩, fun w' hw' => by cases hw'⟩
    · show max s.base x ≤ s.next; omega
    · show s.pushed ≤ max s.base x + cap; omega
    · show max s.limit (x + r) ≤ 2000; omega
abbrev waits (s : Pst) : List (List Value) := (List.range' s.base (s.pushed - s.base)).map mkC
structure Sys (ob ib : Nat) (SO SI : List (Nat × Obj)) (cap : Nat) (s : Pst) : Prop where
  out : OutAt ob SO 7 (4 : Nat) (waits s) cap s.base s.limit
  inn : InAt ib SI 7 (4 : Nat) (List.range' s.popped (s.next - s.popped)) cap s.next
abbrev BufW (v : Value) (T : List (Nat × Obj)) (ws : List Way) : Prop := Buf 50 2 v T ws.length (ws.map Way.c).flatten
theorem waits_len (s : Pst) : (waits s).length = s.pushed - s.base := by rw [List.length_map, List.length_range']
theorem waits_drop (s : Pst) (x : Nat) : (waits s).drop (x - s.base) = (List.range' (max s.base x) (s.pushed - max s.base x)).map mkC := by
  rw [← List.map_drop, List.drop_range']
  congr 2 <;> omega
theorem waits_get {s : Pst} {k : Nat} (h : k < s.pushed - s.base) : (waits s)[k]? = some (mkC (s.base + k)) := by
  rw [List.getElem?_map, List.getElem?_range' h, Nat.one_mul]; rfl
theorem bytes_ne (g : GV) : (g.bytes == []) = false := by
  have := g.bytes_pos
  cases h : g.bytes with
  | nil => rw [h] at this; simp at this
  | cons a l => rfl
theorem buf_way (b : Nat) (w : Way) : BufW (.slice (some ⟨b, 0, none⟩) 1 1) [(b, .cells w.c.toArray 50 (0, 0))] [w] := by
  refine .inr ⟨b, 0, 1, _, rfl, rfl, rfl, Nat.le_refl _, by decide, Nat.le_refl 2, fun j x hx => ?_⟩
  rw [Nat.zero_add]
  simpa using hx
attribute [local irreducible] Fn WC WL WR OW Qt YieldFn QW FnP FnD FnE
section
variable {ob ib cap : Nat} {s : Pst} {SO SI F : List (Nat × Obj)}
theorem comeO_fn (h : OutAt ob SO 7 (4 : Nat) (waits s) cap s.base s.limit) (hs : s.Ok cap) (hH : HandleIn F) {x r : Nat} (hx : x ≤ s.next) (hr : r ≤ cap) : Fn Tryz.prog 21 [.pointer (some ⟨ob, 0, none⟩), .string (bstr (aB 4 x r))] (SO ++ F) (fun v L' => v = .int .i64 0 ∧ ∃ SO', L' = SO' ++ F ∧ OutAt ob SO' 7 (4 : Nat) (waits (s.go cap (.ack x r))) cap (s.go cap (.ack x r)).base (s.go cap (.ack x r)).limit) := by
  have a4 := hs.h2; have a5 := hs.h3; have a8 := hs.h6
  refine (come_fn (F := F) h (by decide) (by rw [waits_len]; omega) (by omega) hr (by omega) hH).mono ?_
  rintro _ _ ⟨rfl, S', rfl, h'⟩
  rw [waits_drop] at h'
  exact ⟨rfl, S', rfl, h'⟩
theorem comeI_fn (h : InAt ib SI 7 (4 : Nat) (List.range' s.popped (s.next - s.popped)) cap s.next) (hs : s.Ok cap) (hH : HandleIn F) {k : Nat} (hk : k < s.pushed) : Fn Tryz.prog 20 [.pointer (some ⟨ib, 0, none⟩), .string (bstr (dB 4 k k))] (SI ++ F) (fun v L' => v = .tuple #[.string (bstr (aB 4 (s.go cap (.dat k)).next (cap - ((s.go cap (.dat k)).next - s.popped)))), .int .i64 (dataE k s.next (s.next - s.popped) cap)] ∧ ∃ SI', L' = SI' ++ F ∧ InAt ib SI' 7 (4 : Nat) (List.range' (s.go cap (.dat k)).popped ((s.go cap (.dat k)).next - (s.go cap (.dat k)).popped)) cap (s.go cap (.dat k)).next) := by
  have a3 := hs.h1; have a5 := hs.h3; have a8 := hs.h6
  refine (icome_fn (F := F) (seq := k) (n := k) h (by decide) (by omega) (by omega) (by omega) hH).mono ?_
  rintro _ _ ⟨ns', next', e1, e2, rfl, S', rfl, h'⟩
  rw [List.length_range'] at e1 e2 ⊢
  by_cases he : dataE k s.next (s.next - s.popped) cap = 0
  · rw [if_pos he] at e1 e2
    obtain ⟨q1, q2⟩ := dataE_zero.1 he
    subst q1
    have eg : s.go cap (.dat s.next) = { s with next := s.next + 1 } := by simp only [Pst.go]; rw [if_pos he]
    have en : ns' = List.range' s.popped (s.next + 1 - s.popped) := by
      rw [e1, show s.next + 1 - s.popped = (s.next - s.popped) + 1 by omega, List.range'_1_concat, show s.popped + (s.next - s.popped) = s.next by omega]
    rw [eg, en, e2, List.length_range']
    rw [en, e2] at h'
    exact ⟨rfl, S', rfl, h'⟩
  · rw [if_neg he] at e1 e2
    have eg : s.go cap (.dat k) = s := by simp only [Pst.go]; rw [if_neg he]
    rw [eg, e1, e2, List.length_range']
    rw [e1, e2] at h'
    exact ⟨rfl, S', rfl, h'⟩
theorem go_dat_out (s : Pst) (k : Nat) : waits (s.go cap (.dat k)) = waits s ∧ (s.go cap (.dat k)).base = s.base ∧ (s.go cap (.dat k)).limit = s.limit := by
  simp only [Pst.go]
  split <;> exact ⟨rfl, rfl, rfl⟩
set_option maxHeartbeats 2000000 in
theorem goes_fn {w : Way} (h : Sys ob ib SO SI cap s) (hs : s.Ok cap) (hw : w.Ok cap s) (hH : HandleIn F) : Fn Tryz.prog 16 [.pointer (some ⟨ob, 0, none⟩), .pointer (some ⟨ib, 0, none⟩), .agg w.c.toArray] (SO ++ (SI ++ F)) (fun r L' => ∃ v T, BufW v T (s.backs cap w) ∧ r = .tuple #[v, .bool true] ∧ ∃ SO' SI', L' = T ++ (SO' ++ (SI' ++ F)) ∧ Sys ob ib SO' SI' cap (s.go cap w)) := by
  have hsz : w.c.toArray.size = 2 := rfl
  have hone : (w.c.toArray.toList.all fun v => v.oneCell') = true := rfl
  refine Fn_enter Tryz.func16 rfl Tryz.ntmps16 rfl fun gw => ?_
  cases w with
  | ack x r =>
    obtain ⟨hx, hr⟩ : x ≤ s.next ∧ r ≤ cap := hw
    have ho : (Way.ack x r).out = true := rfl
    repeat (first | refine RQ ?_ | (refine RE ?_; try intro _) | ((first | refine WL_op rfl ?_ | refine WL_yes (h := ?_)); (first | (refine OW_call rfl (hF := Fn.under (Pf := [_]) (comeO_fn h.out hs ((hH.app SI).app _) hx hr)) (hk := ?_); rintro _ _ ⟨rfl, S', rfl, h'⟩))) | refine RC ?_ | refine WC_region ?_)
    exact ⟨rfl, _, _, Res2 rfl (resV_tmp rfl) (resV_tmp rfl), .cons _ (.refl _), _, [], Buf.nil _ _, rfl, S', SI, rfl, h', h.inn⟩
  | old q n =>
    obtain ⟨hq, hn⟩ : q ≤ 1000 ∧ n ≤ 10000 := hw
    have ho : (Way.old q n).out = false := rfl
    repeat (first | refine RQ ?_ | (refine RE ?_; try intro _) | ((first | refine WL_op rfl ?_ | refine WL_yes (h := ?_)); (first | (refine OW_call rfl (hF := Fn.under (Pf := [_]) (comeO_fn h.out hs ((hH.app SI).app _) hx hr)) (hk := ?_); rintro _ _ ⟨rfl, S', rfl, h'⟩) | refine OW_callP rfl (hF := Fn.underP (Pf := _ :: SO) (come_old (lo := 3) h.inn (by decide) (by decide) (by omega) (by omega) (hH.app _))) (hk := ?_))) | refine RC ?_ | refine WC_region ?_)
    exact ⟨rfl, _, _, Res2 rfl (resV_tmp rfl) (resV_tmp rfl), .cons _ (.refl _), _, [], Buf.nil _ _, rfl, SO, SI, rfl, h⟩
  | dat k =>
    have hk : k < s.pushed := hw
    have ho : (Way.dat k).out = false := rfl
    repeat (first | refine RQ ?_ | (refine RE ?_; try intro _) | (refine WL_op rfl ?_; (first | (refine OW_call rfl (hF := Fn.under (Pf := _ :: SO) (comeI_fn h.inn hs (hH.app _) hk)) (hk := ?_); rintro _ _ ⟨rfl, S', rfl, h'⟩))) | refine RC ?_ | refine WG 0 ?_ | refine WG 1 ?_ | refine WG 4 ?_)
    have hne : (aB 4 (s.go cap (.dat k)).next (cap - ((s.go cap (.dat k)).next - s.popped)) == []) = false := bytes_ne _
    obtain ⟨g1, g2, g3⟩ := go_dat_out (cap := cap) s k
    have hout : OutAt ob SO 7 (4 : Nat) (waits (s.go cap (.dat k))) cap (s.go cap (.dat k)).base (s.go cap (.dat k)).limit := by rw [g1, g2, g3]; exact h.out
    have he := dataE_in k s.next (s.next - s.popped) cap
    generalize dataE k s.next (s.next - s.popped) cap = e at he
    rename_i x5
    refine WC_meet (fun σ => σ = ⟨[(43, .bool false), (9, .string (bstr (aB 4 (s.go cap (.dat k)).next (cap - ((s.go cap (.dat k)).next - s.popped))))), (10, .int .i64 e)], [], ((x5, .cells (Way.dat k).c.toArray 50 (0, 0)) :: SO) ++ (S' ++ F)⟩) ?_ ?_
    · rcases he with rfl | rfl | rfl | rfl
      · repeat (first | refine RQ ?_ | refine RC ?_ | refine WG 5 ?_)
        exact ⟨_, rfl, ⟨rfl, rfl, rfl, trivial⟩, rfl, .refl _⟩
      · repeat (first | refine RQ ?_ | refine RC ?_ | refine WG 5 ?_)
        exact ⟨_, rfl, ⟨rfl, rfl, rfl, trivial⟩, rfl, .refl _⟩
      · repeat (first | refine RQ ?_ | refine RC ?_ | refine WG 5 ?_)
        exact ⟨_, rfl, ⟨rfl, rfl, rfl, trivial⟩, rfl, .refl _⟩
      · repeat (first | refine RQ ?_ | refine RC ?_ | refine WG 5 ?_)
        exact ⟨_, rfl, ⟨rfl, rfl, rfl, trivial⟩, rfl, .refl _⟩
    rintro _ rfl
    repeat (first | refine RQ ?_ | (refine RE ?_; try intro _) | refine RC ?_ | refine WG 7 ?_ | refine WG 9 ?_)
    rename_i wb
    exact ⟨rfl, _, _, Res2 rfl (resV_tmp rfl) (resV_tmp rfl), .cons_cons _ (.cons _ (.refl _)), _, _, buf_way wb (.ack (s.go cap (.dat k)).next (cap - ((s.go cap (.dat k)).next - s.popped))), rfl, SO, S', rfl, hout, h'⟩
end
end Go.Proofs.YtdiaogcogkapgaaGreatDoor
namespace Go.Proofs.YtdiaogcogkapgaaGreatDoor
open Go.RowKit
namespace W22
noncomputable def xf5 : XF := ⟨Tryz.f5, (Tryz.f5.body).getD .skip, T.ofList [], 16906239⟩
theorem xf5_ok : GoodF Tryz.prog 5 xf5 := ⟨Tryz.func5, by kernel_rfl, inferInstance, by kernel_rfl⟩
noncomputable def xf6 : XF := ⟨Tryz.f6, (Tryz.f6.body).getD .skip, T.ofList [], 131271⟩
theorem xf6_ok : GoodF Tryz.prog 6 xf6 := ⟨Tryz.func6, by kernel_rfl, inferInstance, by kernel_rfl⟩
noncomputable def xf7 : XF := ⟨Tryz.f7, (Tryz.f7.body).getD .skip, T.ofList [], 131271⟩
theorem xf7_ok : GoodF Tryz.prog 7 xf7 := ⟨Tryz.func7, by kernel_rfl, inferInstance, by kernel_rfl⟩
noncomputable def xf8 : XF := ⟨Tryz.f8, (Tryz.f8.body).getD .skip, T.ofList [], 95⟩
theorem xf8_ok : GoodF Tryz.prog 8 xf8 := ⟨Tryz.func8, by kernel_rfl, inferInstance, by kernel_rfl⟩
noncomputable def xf10 : XF := ⟨Tryz.f10, (Tryz.f10.body).getD .skip, T.ofList [(6, (19, .calm 0 <| .calm 1 <| .calm 2 <| .calm 3 <| .calm 4 <| .calm 5 <| .calm 6 <| .calm 7 <| .calm 8 <| .calm 9 <| .calm 10 <| .calm 11 <| .calm 12 <| .must 13 <| .calm 14 <| .calm 15 <| .calm 16 <| .calm 17 <| .calm 18 <| .done))], 134223859⟩
theorem xf10_ok : GoodF Tryz.prog 10 xf10 := ⟨Tryz.func10, by kernel_rfl, inferInstance, by kernel_rfl⟩
noncomputable def xf13 : XF := ⟨Tryz.f13, (Tryz.f13.body).getD .skip, T.ofList [], 45⟩
theorem xf13_ok : GoodF Tryz.prog 13 xf13 := ⟨Tryz.func13, by kernel_rfl, inferInstance, by kernel_rfl⟩
noncomputable def xf15 : XF := ⟨Tryz.f15, (Tryz.f15.body).getD .skip, T.ofList [], 21⟩
theorem xf15_ok : GoodF Tryz.prog 15 xf15 := ⟨Tryz.func15, by kernel_rfl, inferInstance, by kernel_rfl⟩
noncomputable def xf20 : XF := ⟨Tryz.f20, (Tryz.f20.body).getD .skip, T.ofList [(6, (13, .calm 0 <| .calm 1 <| .calm 2 <| .calm 3 <| .calm 4 <| .calm 5 <| .calm 6 <| .calm 7 <| .calm 8 <| .calm 9 <| .calm 10 <| .must 11 <| .calm 12 <| .done)), (8, (18, .calm 0 <| .calm 1 <| .calm 2 <| .calm 3 <| .calm 4 <| .calm 5 <| .calm 6 <| .calm 7 <| .calm 8 <| .calm 9 <| .calm 10 <| .calm 11 <| .calm 12 <| .must 13 <| .calm 14 <| .calm 15 <| .calm 16 <| .calm 17 <| .done))], 2098675⟩
theorem xf20_ok : GoodF Tryz.prog 20 xf20 := ⟨Tryz.func20, by kernel_rfl, inferInstance, by kernel_rfl⟩
noncomputable def xf21 : XF := ⟨Tryz.f21, (Tryz.f21.body).getD .skip, T.ofList [(6, (13, .calm 0 <| .calm 1 <| .calm 2 <| .calm 3 <| .calm 4 <| .calm 5 <| .calm 6 <| .calm 7 <| .calm 8 <| .calm 9 <| .calm 10 <| .must 11 <| .calm 12 <| .done))], 524659⟩
theorem xf21_ok : GoodF Tryz.prog 21 xf21 := ⟨Tryz.func21, by kernel_rfl, inferInstance, by kernel_rfl⟩
noncomputable def xf22 : XF := ⟨Tryz.f22, (Tryz.f22.body).getD .skip, T.ofList [], 261⟩
theorem xf22_ok : GoodF Tryz.prog 22 xf22 := ⟨Tryz.func22, by kernel_rfl, inferInstance, by kernel_rfl⟩
noncomputable def xf23 : XF := ⟨Tryz.f23, (Tryz.f23.body).getD .skip, T.ofList [], 83⟩
theorem xf23_ok : GoodF Tryz.prog 23 xf23 := ⟨Tryz.func23, by kernel_rfl, inferInstance, by kernel_rfl⟩
noncomputable def xf24 : XF := ⟨Tryz.f24, (Tryz.f24.body).getD .skip, T.ofList [], 261⟩
theorem xf24_ok : GoodF Tryz.prog 24 xf24 := ⟨Tryz.func24, by kernel_rfl, inferInstance, by kernel_rfl⟩
noncomputable def xf25 : XF := ⟨Tryz.f25, (Tryz.f25.body).getD .skip, T.ofList [], 33781⟩
theorem xf25_ok : GoodF Tryz.prog 25 xf25 := ⟨Tryz.func25, by kernel_rfl, inferInstance, by kernel_rfl⟩
noncomputable def xf26 : XF := ⟨Tryz.f26, (Tryz.f26.body).getD .skip, T.ofList [], 11⟩
theorem xf26_ok : GoodF Tryz.prog 26 xf26 := ⟨Tryz.func26, by kernel_rfl, inferInstance, by kernel_rfl⟩
noncomputable def xf27 : XF := ⟨Tryz.f27, (Tryz.f27.body).getD .skip, T.ofList [(7, (15, .calm 0 <| .calm 1 <| .calm 2 <| .calm 4 <| .calm 5 <| .calm 6 <| .calm 8 <| .calm 9 <| .calm 11 <| .calm 12 <| .must 3 <| .must 7 <| .must 10 <| .must 13 <| .calm 14 <| .done))], 292742771909329135⟩
theorem xf27_ok : GoodF Tryz.prog 27 xf27 := ⟨Tryz.func27, by kernel_rfl, inferInstance, by kernel_rfl⟩
noncomputable def xf28 : XF := ⟨Tryz.f28, (Tryz.f28.body).getD .skip, T.ofList [(1, (10, .calm 0 <| .calm 1 <| .calm 2 <| .calm 3 <| .calm 4 <| .calm 5 <| .calm 6 <| .calm 7 <| .must 8 <| .calm 9 <| .done))], 7⟩
theorem xf28_ok : GoodF Tryz.prog 28 xf28 := ⟨Tryz.func28, by kernel_rfl, inferInstance, by kernel_rfl⟩
noncomputable def xf29 : XF := ⟨Tryz.f29, (Tryz.f29.body).getD .skip, T.ofList [(5, (10, .calm 0 <| .calm 1 <| .calm 2 <| .calm 3 <| .calm 4 <| .calm 5 <| .must 6 <| .must 7 <| .calm 8 <| .calm 9 <| .must 10 <| .done))], 315⟩
theorem xf29_ok : GoodF Tryz.prog 29 xf29 := ⟨Tryz.func29, by kernel_rfl, inferInstance, by kernel_rfl⟩
noncomputable def xf30 : XF := ⟨Tryz.f30, (Tryz.f30.body).getD .skip, T.ofList [(2, (2, .calm 0 <| .calm 1 <| .must 2 <| .must 3 <| .done)), (5, (15, .calm 0 <| .calm 1 <| .calm 2 <| .calm 3 <| .calm 4 <| .calm 5 <| .calm 6 <| .calm 7 <| .calm 8 <| .calm 9 <| .calm 10 <| .calm 11 <| .calm 12 <| .calm 13 <| .calm 14 <| .must 15 <| .must 16 <| .done))], 262647⟩
theorem xf30_ok : GoodF Tryz.prog 30 xf30 := ⟨Tryz.func30, by kernel_rfl, inferInstance, by kernel_rfl⟩
noncomputable def xf31 : XF := ⟨Tryz.f31, (Tryz.f31.body).getD .skip, T.ofList [(3, (11, .calm 0 <| .calm 1 <| .calm 2 <| .calm 3 <| .calm 4 <| .calm 5 <| .calm 6 <| .calm 7 <| .calm 8 <| .calm 9 <| .calm 10 <| .done))], 21⟩
theorem xf31_ok : GoodF Tryz.prog 31 xf31 := ⟨Tryz.func31, by kernel_rfl, inferInstance, by kernel_rfl⟩
noncomputable def xf33 : XF := ⟨Tryz.f33, (Tryz.f33.body).getD .skip, T.ofList [], 221⟩
theorem xf33_ok : GoodF Tryz.prog 33 xf33 := ⟨Tryz.func33, by kernel_rfl, inferInstance, by kernel_rfl⟩
noncomputable def xf35 : XF := ⟨Tryz.f35, (Tryz.f35.body).getD .skip, T.ofList [], 77⟩
theorem xf35_ok : GoodF Tryz.prog 35 xf35 := ⟨Tryz.func35, by kernel_rfl, inferInstance, by kernel_rfl⟩
noncomputable def xf48 : XF := ⟨Tryz.f48, (Tryz.f48.body).getD .skip, T.ofList [(2, (6, .calm 0 <| .calm 1 <| .calm 2 <| .calm 3 <| .must 4 <| .must 5 <| .must 6 <| .must 7 <| .done))], 1007⟩
theorem xf48_ok : GoodF Tryz.prog 48 xf48 := ⟨Tryz.func48, by kernel_rfl, inferInstance, by kernel_rfl⟩
noncomputable def xf49 : XF := ⟨Tryz.f49, (Tryz.f49.body).getD .skip, T.ofList [(5, (10, .calm 0 <| .calm 1 <| .calm 2 <| .calm 3 <| .calm 4 <| .calm 5 <| .calm 6 <| .calm 7 <| .calm 8 <| .calm 9 <| .done)), (13, (8, .calm 0 <| .calm 1 <| .calm 2 <| .calm 3 <| .calm 4 <| .calm 6 <| .must 5 <| .calm 7 <| .must 8 <| .done))], 85907800935⟩
theorem xf49_ok : GoodF Tryz.prog 49 xf49 := ⟨Tryz.func49, by kernel_rfl, inferInstance, by kernel_rfl⟩
noncomputable def xf50 : XF := ⟨Tryz.f50, (Tryz.f50.body).getD .skip, T.ofList [(3, (15, .calm 0 <| .calm 1 <| .calm 2 <| .calm 3 <| .calm 4 <| .calm 5 <| .calm 6 <| .calm 7 <| .calm 8 <| .calm 9 <| .calm 10 <| .calm 11 <| .calm 12 <| .calm 13 <| .calm 14 <| .done))], 45⟩
theorem xf50_ok : GoodF Tryz.prog 50 xf50 := ⟨Tryz.func50, by kernel_rfl, inferInstance, by kernel_rfl⟩
noncomputable def xf51 : XF := ⟨Tryz.f51, (Tryz.f51.body).getD .skip, T.ofList [(2, (22, .calm 0 <| .calm 1 <| .calm 2 <| .calm 3 <| .calm 4 <| .calm 5 <| .calm 6 <| .calm 7 <| .calm 8 <| .calm 9 <| .calm 10 <| .calm 11 <| .calm 12 <| .calm 13 <| .calm 14 <| .calm 15 <| .calm 16 <| .calm 17 <| .calm 18 <| .calm 19 <| .calm 20 <| .calm 21 <| .done)), (9, (19, .calm 0 <| .calm 1 <| .calm 2 <| .calm 3 <| .calm 4 <| .calm 5 <| .calm 6 <| .calm 7 <| .calm 8 <| .calm 9 <| .calm 10 <| .calm 11 <| .calm 12 <| .calm 13 <| .calm 14 <| .calm 15 <| .calm 16 <| .calm 17 <| .calm 18 <| .must 19 <| .done))], 140746078292423⟩
theorem xf51_ok : GoodF Tryz.prog 51 xf51 := ⟨Tryz.func51, by kernel_rfl, inferInstance, by kernel_rfl⟩
noncomputable def xf52 : XF := ⟨Tryz.f52, (Tryz.f52.body).getD .skip, T.ofList [], 7⟩
theorem xf52_ok : GoodF Tryz.prog 52 xf52 := ⟨Tryz.func52, by kernel_rfl, inferInstance, by kernel_rfl⟩
noncomputable def xf53 : XF := ⟨Tryz.f53, (Tryz.f53.body).getD .skip, T.ofList [(9, (10, .calm 0 <| .calm 1 <| .calm 2 <| .calm 3 <| .calm 4 <| .calm 5 <| .calm 6 <| .calm 7 <| .must 8 <| .calm 9 <| .done))], 32883⟩
theorem xf53_ok : GoodF Tryz.prog 53 xf53 := ⟨Tryz.func53, by kernel_rfl, inferInstance, by kernel_rfl⟩
noncomputable def xf54 : XF := ⟨Tryz.f54, (Tryz.f54.body).getD .skip, T.ofList [], 51⟩
theorem xf54_ok : GoodF Tryz.prog 54 xf54 := ⟨Tryz.func54, by kernel_rfl, inferInstance, by kernel_rfl⟩
noncomputable def xf55 : XF := ⟨Tryz.f55, (Tryz.f55.body).getD .skip, T.ofList [], 27⟩
theorem xf55_ok : GoodF Tryz.prog 55 xf55 := ⟨Tryz.func55, by kernel_rfl, inferInstance, by kernel_rfl⟩
noncomputable def xf56 : XF := ⟨Tryz.f56, (Tryz.f56.body).getD .skip, T.ofList [(1, (9, .calm 0 <| .calm 1 <| .calm 2 <| .calm 3 <| .calm 4 <| .calm 5 <| .calm 6 <| .calm 7 <| .calm 8 <| .done)), (3, (18, .calm 0 <| .calm 1 <| .calm 2 <| .calm 3 <| .calm 4 <| .calm 5 <| .calm 6 <| .calm 7 <| .calm 8 <| .calm 9 <| .calm 10 <| .calm 11 <| .calm 12 <| .calm 13 <| .calm 14 <| .calm 15 <| .calm 16 <| .calm 17 <| .done))], 1027⟩
theorem xf56_ok : GoodF Tryz.prog 56 xf56 := ⟨Tryz.func56, by kernel_rfl, inferInstance, by kernel_rfl⟩
noncomputable def xf57 : XF := ⟨Tryz.f57, (Tryz.f57.body).getD .skip, T.ofList [], 7⟩
theorem xf57_ok : GoodF Tryz.prog 57 xf57 := ⟨Tryz.func57, by kernel_rfl, inferInstance, by kernel_rfl⟩
noncomputable def xf58 : XF := ⟨Tryz.f58, (Tryz.f58.body).getD .skip, T.ofList [(1, (12, .calm 0 <| .calm 1 <| .calm 2 <| .calm 3 <| .calm 4 <| .calm 5 <| .calm 6 <| .calm 7 <| .calm 8 <| .calm 9 <| .calm 10 <| .calm 11 <| .done))], 19⟩
theorem xf58_ok : GoodF Tryz.prog 58 xf58 := ⟨Tryz.func58, by kernel_rfl, inferInstance, by kernel_rfl⟩
noncomputable def xf68 : XF := ⟨Tryz.f68, (Tryz.f68.body).getD .skip, T.ofList [(4, (14, .calm 0 <| .calm 1 <| .calm 3 <| .calm 4 <| .calm 6 <| .calm 7 <| .calm 8 <| .calm 9 <| .calm 10 <| .calm 13 <| .must 2 <| .must 5 <| .must 11 <| .calm 12 <| .done)), (9, (0, .either 0 (.either 1 (.either 2 (.must 3 <| .must 4 <| .done) 3 (.must 2 <| .must 4 <| .done)) 3 (.must 1 <| .must 2 <| .must 4 <| .done)) 1 (.either 0 (.either 2 (.must 3 <| .must 4 <| .done) 3 (.must 2 <| .must 4 <| .done)) 2 (.must 0 <| .must 3 <| .must 4 <| .done))))], 8841593725⟩
theorem xf68_ok : GoodF Tryz.prog 68 xf68 := ⟨Tryz.func68, by kernel_rfl, inferInstance, by kernel_rfl⟩
noncomputable def xf69 : XF := ⟨Tryz.f69, (Tryz.f69.body).getD .skip, T.ofList [], 3⟩
theorem xf69_ok : GoodF Tryz.prog 69 xf69 := ⟨Tryz.func69, by kernel_rfl, inferInstance, by kernel_rfl⟩
noncomputable def xf70 : XF := ⟨Tryz.f70, (Tryz.f70.body).getD .skip, T.ofList [], 51⟩
theorem xf70_ok : GoodF Tryz.prog 70 xf70 := ⟨Tryz.func70, by kernel_rfl, inferInstance, by kernel_rfl⟩
noncomputable def xf71 : XF := ⟨Tryz.f71, (Tryz.f71.body).getD .skip, T.ofList [], 15⟩
theorem xf71_ok : GoodF Tryz.prog 71 xf71 := ⟨Tryz.func71, by kernel_rfl, inferInstance, by kernel_rfl⟩
noncomputable def xf72 : XF := ⟨Tryz.f72, (Tryz.f72.body).getD .skip, T.ofList [], 7⟩
theorem xf72_ok : GoodF Tryz.prog 72 xf72 := ⟨Tryz.func72, by kernel_rfl, inferInstance, by kernel_rfl⟩
noncomputable def xf73 : XF := ⟨Tryz.f73, (Tryz.f73.body).getD .skip, T.ofList [], 215⟩
theorem xf73_ok : GoodF Tryz.prog 73 xf73 := ⟨Tryz.func73, by kernel_rfl, inferInstance, by kernel_rfl⟩
noncomputable def xf74 : XF := ⟨Tryz.f74, (Tryz.f74.body).getD .skip, T.ofList [(2, (17, .calm 0 <| .calm 1 <| .calm 2 <| .calm 3 <| .calm 4 <| .calm 5 <| .calm 6 <| .calm 7 <| .calm 8 <| .calm 9 <| .calm 10 <| .calm 11 <| .calm 12 <| .calm 13 <| .calm 14 <| .calm 15 <| .must 16 <| .done)), (8, (8, .calm 0 <| .calm 1 <| .calm 2 <| .calm 3 <| .calm 4 <| .calm 5 <| .calm 6 <| .must 7 <| .done))], 297471780385420476419⟩
theorem xf74_ok : GoodF Tryz.prog 74 xf74 := ⟨Tryz.func74, by kernel_rfl, inferInstance, by kernel_rfl⟩
noncomputable def xf75 : XF := ⟨Tryz.f75, (Tryz.f75.body).getD .skip, T.ofList [], 1052203⟩
theorem xf75_ok : GoodF Tryz.prog 75 xf75 := ⟨Tryz.func75, by kernel_rfl, inferInstance, by kernel_rfl⟩
noncomputable def xf84 : XF := ⟨Tryz.f84, (Tryz.f84.body).getD .skip, T.ofList [], 5⟩
theorem xf84_ok : GoodF Tryz.prog 84 xf84 := ⟨Tryz.func84, by kernel_rfl, inferInstance, by kernel_rfl⟩
noncomputable def xf85 : XF := ⟨Tryz.f85, (Tryz.f85.body).getD .skip, T.ofList [], 23⟩
theorem xf85_ok : GoodF Tryz.prog 85 xf85 := ⟨Tryz.func85, by kernel_rfl, inferInstance, by kernel_rfl⟩
noncomputable def xf86 : XF := ⟨Tryz.f86, (Tryz.f86.body).getD .skip, T.ofList [], 127⟩
theorem xf86_ok : GoodF Tryz.prog 86 xf86 := ⟨Tryz.func86, by kernel_rfl, inferInstance, by kernel_rfl⟩
noncomputable def xf87 : XF := ⟨Tryz.f87, (Tryz.f87.body).getD .skip, T.ofList [], 13⟩
theorem xf87_ok : GoodF Tryz.prog 87 xf87 := ⟨Tryz.func87, by kernel_rfl, inferInstance, by kernel_rfl⟩
noncomputable def xf88 : XF := ⟨Tryz.f88, (Tryz.f88.body).getD .skip, T.ofList [], 7⟩
theorem xf88_ok : GoodF Tryz.prog 88 xf88 := ⟨Tryz.func88, by kernel_rfl, inferInstance, by kernel_rfl⟩
noncomputable def xf89 : XF := ⟨Tryz.f89, (Tryz.f89.body).getD .skip, T.ofList [(2, (13, .calm 0 <| .calm 2 <| .calm 3 <| .calm 4 <| .calm 5 <| .calm 6 <| .calm 7 <| .calm 8 <| .calm 9 <| .calm 10 <| .calm 11 <| .must 1 <| .must 12 <| .done)), (3, (12, .calm 0 <| .calm 1 <| .calm 2 <| .calm 3 <| .calm 4 <| .calm 5 <| .calm 6 <| .calm 7 <| .calm 8 <| .calm 9 <| .calm 10 <| .must 11 <| .done)), (5, (12, .calm 0 <| .calm 1 <| .calm 2 <| .calm 3 <| .calm 4 <| .calm 5 <| .calm 6 <| .calm 7 <| .calm 8 <| .calm 9 <| .calm 10 <| .calm 11 <| .must 12 <| .done))], 13⟩
theorem xf89_ok : GoodF Tryz.prog 89 xf89 := ⟨Tryz.func89, by kernel_rfl, inferInstance, by kernel_rfl⟩
noncomputable def xf90 : XF := ⟨Tryz.f90, (Tryz.f90.body).getD .skip, T.ofList [], 7⟩
theorem xf90_ok : GoodF Tryz.prog 90 xf90 := ⟨Tryz.func90, by kernel_rfl, inferInstance, by kernel_rfl⟩
noncomputable def xf91 : XF := ⟨Tryz.f91, (Tryz.f91.body).getD .skip, T.ofList [], 61⟩
theorem xf91_ok : GoodF Tryz.prog 91 xf91 := ⟨Tryz.func91, by kernel_rfl, inferInstance, by kernel_rfl⟩
noncomputable def xf92 : XF := ⟨Tryz.f92, (Tryz.f92.body).getD .skip, T.ofList [(2, (13, .calm 0 <| .calm 2 <| .calm 3 <| .calm 4 <| .calm 5 <| .calm 6 <| .calm 7 <| .calm 8 <| .calm 9 <| .calm 10 <| .calm 11 <| .must 1 <| .must 12 <| .done))], 5⟩
theorem xf92_ok : GoodF Tryz.prog 92 xf92 := ⟨Tryz.func92, by kernel_rfl, inferInstance, by kernel_rfl⟩
noncomputable def xf93 : XF := ⟨Tryz.f93, (Tryz.f93.body).getD .skip, T.ofList [], 34368129779⟩
theorem xf93_ok : GoodF Tryz.prog 93 xf93 := ⟨Tryz.func93, by kernel_rfl, inferInstance, by kernel_rfl⟩
noncomputable def xf94 : XF := ⟨Tryz.f94, (Tryz.f94.body).getD .skip, T.ofList [], 19⟩
theorem xf94_ok : GoodF Tryz.prog 94 xf94 := ⟨Tryz.func94, by kernel_rfl, inferInstance, by kernel_rfl⟩
noncomputable def xf95 : XF := ⟨Tryz.f95, (Tryz.f95.body).getD .skip, T.ofList [(1, (8, .calm 0 <| .calm 1 <| .calm 2 <| .calm 3 <| .calm 4 <| .calm 5 <| .calm 6 <| .must 7 <| .done)), (2, (8, .calm 0 <| .calm 1 <| .calm 2 <| .calm 3 <| .calm 4 <| .calm 5 <| .calm 6 <| .must 7 <| .done)), (3, (8, .calm 0 <| .calm 1 <| .calm 2 <| .calm 3 <| .calm 4 <| .calm 5 <| .calm 6 <| .must 7 <| .done)), (4, (8, .calm 0 <| .calm 1 <| .calm 2 <| .calm 3 <| .calm 4 <| .calm 5 <| .calm 6 <| .must 7 <| .done)), (5, (8, .calm 0 <| .calm 1 <| .calm 2 <| .calm 3 <| .calm 4 <| .calm 5 <| .calm 6 <| .must 7 <| .done))], 3⟩
theorem xf95_ok : GoodF Tryz.prog 95 xf95 := ⟨Tryz.func95, by kernel_rfl, inferInstance, by kernel_rfl⟩
noncomputable def xf96 : XF := ⟨Tryz.f96, (Tryz.f96.body).getD .skip, T.ofList [(1, (8, .calm 0 <| .calm 1 <| .calm 2 <| .calm 3 <| .calm 4 <| .calm 5 <| .calm 6 <| .must 7 <| .done))], 3⟩
theorem xf96_ok : GoodF Tryz.prog 96 xf96 := ⟨Tryz.func96, by kernel_rfl, inferInstance, by kernel_rfl⟩
noncomputable def xf97 : XF := ⟨Tryz.f97, (Tryz.f97.body).getD .skip, T.ofList [(2, (8, .calm 0 <| .calm 1 <| .calm 2 <| .calm 3 <| .calm 4 <| .calm 5 <| .calm 6 <| .must 7 <| .done))], 3⟩
theorem xf97_ok : GoodF Tryz.prog 97 xf97 := ⟨Tryz.func97, by kernel_rfl, inferInstance, by kernel_rfl⟩
noncomputable def xf108 : XF := ⟨Tryz.f108, (Tryz.f108.body).getD .skip, T.ofList [], 1048703⟩
theorem xf108_ok : GoodF Tryz.prog 108 xf108 := ⟨Tryz.func108, by kernel_rfl, inferInstance, by kernel_rfl⟩
noncomputable def xf109 : XF := ⟨Tryz.f109, (Tryz.f109.body).getD .skip, T.ofList [], 21⟩
theorem xf109_ok : GoodF Tryz.prog 109 xf109 := ⟨Tryz.func109, by kernel_rfl, inferInstance, by kernel_rfl⟩
noncomputable def xf110 : XF := ⟨Tryz.f110, (Tryz.f110.body).getD .skip, T.ofList [], 51⟩
theorem xf110_ok : GoodF Tryz.prog 110 xf110 := ⟨Tryz.func110, by kernel_rfl, inferInstance, by kernel_rfl⟩
noncomputable def xf111 : XF := ⟨Tryz.f111, (Tryz.f111.body).getD .skip, T.ofList [], 16541⟩
theorem xf111_ok : GoodF Tryz.prog 111 xf111 := ⟨Tryz.func111, by kernel_rfl, inferInstance, by kernel_rfl⟩
noncomputable def xf112 : XF := ⟨Tryz.f112, (Tryz.f112.body).getD .skip, T.ofList [], 21⟩
theorem xf112_ok : GoodF Tryz.prog 112 xf112 := ⟨Tryz.func112, by kernel_rfl, inferInstance, by kernel_rfl⟩
noncomputable def xf113 : XF := ⟨Tryz.f113, (Tryz.f113.body).getD .skip, T.ofList [], 135⟩
theorem xf113_ok : GoodF Tryz.prog 113 xf113 := ⟨Tryz.func113, by kernel_rfl, inferInstance, by kernel_rfl⟩
noncomputable def xf114 : XF := ⟨Tryz.f114, (Tryz.f114.body).getD .skip, T.ofList [(5, (12, .calm 0 <| .calm 1 <| .calm 2 <| .calm 3 <| .calm 4 <| .calm 5 <| .calm 6 <| .calm 7 <| .calm 8 <| .calm 9 <| .calm 10 <| .must 11 <| .done)), (8, (20, .calm 0 <| .calm 1 <| .calm 2 <| .calm 3 <| .calm 4 <| .calm 5 <| .calm 6 <| .calm 7 <| .calm 8 <| .calm 9 <| .calm 10 <| .calm 11 <| .calm 12 <| .calm 13 <| .calm 14 <| .calm 15 <| .calm 16 <| .calm 17 <| .calm 18 <| .must 19 <| .done)), (9, (13, .calm 0 <| .calm 1 <| .calm 2 <| .calm 3 <| .calm 4 <| .calm 5 <| .calm 6 <| .calm 7 <| .calm 8 <| .calm 9 <| .calm 12 <| .must 10 <| .calm 11 <| .done))], 4642275147320176030938824797⟩
theorem xf114_ok : GoodF Tryz.prog 114 xf114 := ⟨Tryz.func114, by kernel_rfl, inferInstance, by kernel_rfl⟩
noncomputable def xf118 : XF := ⟨Tryz.f118, (Tryz.f118.body).getD .skip, T.ofList [], 1193287703199244111⟩
theorem xf118_ok : GoodF Tryz.prog 118 xf118 := ⟨Tryz.func118, by kernel_rfl, inferInstance, by kernel_rfl⟩
noncomputable def xf119 : XF := ⟨Tryz.f119, (Tryz.f119.body).getD .skip, T.ofList [], 19⟩
theorem xf119_ok : GoodF Tryz.prog 119 xf119 := ⟨Tryz.func119, by kernel_rfl, inferInstance, by kernel_rfl⟩
noncomputable def xf120 : XF := ⟨Tryz.f120, (Tryz.f120.body).getD .skip, T.ofList [], 69189240591⟩
theorem xf120_ok : GoodF Tryz.prog 120 xf120 := ⟨Tryz.func120, by kernel_rfl, inferInstance, by kernel_rfl⟩
noncomputable def xf121 : XF := ⟨Tryz.f121, (Tryz.f121.body).getD .skip, T.ofList [(1, (8, .calm 0 <| .calm 1 <| .calm 2 <| .calm 3 <| .calm 4 <| .calm 5 <| .calm 6 <| .must 7 <| .done)), (2, (8, .calm 0 <| .calm 1 <| .calm 2 <| .calm 3 <| .calm 4 <| .calm 5 <| .calm 6 <| .must 7 <| .done))], 3⟩
theorem xf121_ok : GoodF Tryz.prog 121 xf121 := ⟨Tryz.func121, by kernel_rfl, inferInstance, by kernel_rfl⟩
noncomputable def xf122 : XF := ⟨Tryz.f122, (Tryz.f122.body).getD .skip, T.ofList [(9, (8, .calm 0 <| .calm 1 <| .calm 2 <| .calm 3 <| .calm 4 <| .must 5 <| .must 6 <| .calm 7 <| .must 8 <| .done))], 69189240591⟩
theorem xf122_ok : GoodF Tryz.prog 122 xf122 := ⟨Tryz.func122, by kernel_rfl, inferInstance, by kernel_rfl⟩
noncomputable def xf123 : XF := ⟨Tryz.f123, (Tryz.f123.body).getD .skip, T.ofList [(2, (8, .calm 0 <| .calm 1 <| .calm 2 <| .calm 3 <| .calm 4 <| .calm 5 <| .calm 6 <| .must 7 <| .done)), (3, (8, .calm 0 <| .calm 1 <| .calm 2 <| .calm 3 <| .calm 4 <| .calm 5 <| .calm 6 <| .must 7 <| .done)), (4, (8, .calm 0 <| .calm 1 <| .calm 2 <| .calm 3 <| .calm 4 <| .calm 5 <| .calm 6 <| .must 7 <| .done))], 3⟩
theorem xf123_ok : GoodF Tryz.prog 123 xf123 := ⟨Tryz.func123, by kernel_rfl, inferInstance, by kernel_rfl⟩
noncomputable def xf131 : XF := ⟨Tryz.f131, (Tryz.f131.body).getD .skip, T.ofList [], 3451⟩
theorem xf131_ok : GoodF Tryz.prog 131 xf131 := ⟨Tryz.func131, by kernel_rfl, inferInstance, by kernel_rfl⟩
noncomputable def xf135 : XF := ⟨Tryz.f135, (Tryz.f135.body).getD .skip, T.ofList [(0, (8, .calm 0 <| .calm 1 <| .calm 2 <| .calm 3 <| .calm 4 <| .calm 5 <| .calm 6 <| .must 7 <| .done)), (1, (8, .calm 0 <| .calm 1 <| .calm 2 <| .calm 3 <| .calm 4 <| .calm 5 <| .calm 6 <| .must 7 <| .done)), (2, (8, .calm 0 <| .calm 1 <| .calm 2 <| .calm 3 <| .calm 4 <| .calm 5 <| .calm 6 <| .must 7 <| .done)), (3, (8, .calm 0 <| .calm 1 <| .calm 2 <| .calm 3 <| .calm 4 <| .calm 5 <| .calm 6 <| .must 7 <| .done)), (4, (8, .calm 0 <| .calm 1 <| .calm 2 <| .calm 3 <| .calm 4 <| .calm 5 <| .calm 6 <| .must 7 <| .done))], 3⟩
theorem xf135_ok : GoodF Tryz.prog 135 xf135 := ⟨Tryz.func135, by kernel_rfl, inferInstance, by kernel_rfl⟩
noncomputable def xf168 : XF := ⟨Tryz.f168, (Tryz.f168.body).getD .skip, T.ofList [], 5⟩
theorem xf168_ok : GoodF Tryz.prog 168 xf168 := ⟨Tryz.func168, by kernel_rfl, inferInstance, by kernel_rfl⟩
noncomputable def xf169 : XF := ⟨Tryz.f169, (Tryz.f169.body).getD .skip, T.ofList [], 1⟩
theorem xf169_ok : GoodF Tryz.prog 169 xf169 := ⟨Tryz.func169, by kernel_rfl, inferInstance, by kernel_rfl⟩
noncomputable def xf170 : XF := ⟨Tryz.f170, (Tryz.f170.body).getD .skip, T.ofList [], 7⟩
theorem xf170_ok : GoodF Tryz.prog 170 xf170 := ⟨Tryz.func170, by kernel_rfl, inferInstance, by kernel_rfl⟩
noncomputable def xf171 : XF := ⟨Tryz.f171, (Tryz.f171.body).getD .skip, T.ofList [(0, (11, .calm 0 <| .calm 1 <| .calm 2 <| .calm 3 <| .calm 4 <| .calm 5 <| .calm 6 <| .calm 7 <| .must 8 <| .calm 9 <| .calm 10 <| .must 11 <| .done))], 3⟩
theorem xf171_ok : GoodF Tryz.prog 171 xf171 := ⟨Tryz.func171, by kernel_rfl, inferInstance, by kernel_rfl⟩
noncomputable def xf172 : XF := ⟨Tryz.f172, (Tryz.f172.body).getD .skip, T.ofList [(0, (12, .calm 0 <| .calm 1 <| .calm 2 <| .calm 3 <| .calm 4 <| .calm 5 <| .calm 6 <| .calm 7 <| .must 8 <| .must 9 <| .calm 10 <| .calm 11 <| .must 12 <| .done))], 3⟩
theorem xf172_ok : GoodF Tryz.prog 172 xf172 := ⟨Tryz.func172, by kernel_rfl, inferInstance, by kernel_rfl⟩
noncomputable def xf173 : XF := ⟨Tryz.f173, (Tryz.f173.body).getD .skip, T.ofList [(0, (11, .calm 0 <| .calm 1 <| .calm 2 <| .calm 3 <| .calm 4 <| .calm 5 <| .calm 6 <| .calm 7 <| .must 8 <| .calm 9 <| .calm 10 <| .must 11 <| .done))], 3⟩
theorem xf173_ok : GoodF Tryz.prog 173 xf173 := ⟨Tryz.func173, by kernel_rfl, inferInstance, by kernel_rfl⟩
noncomputable def xf174 : XF := ⟨Tryz.f174, (Tryz.f174.body).getD .skip, T.ofList [(0, (11, .calm 0 <| .calm 1 <| .calm 2 <| .calm 3 <| .calm 4 <| .calm 5 <| .calm 6 <| .calm 7 <| .must 8 <| .calm 9 <| .calm 10 <| .must 11 <| .done))], 3⟩
theorem xf174_ok : GoodF Tryz.prog 174 xf174 := ⟨Tryz.func174, by kernel_rfl, inferInstance, by kernel_rfl⟩
noncomputable def xf175 : XF := ⟨Tryz.f175, (Tryz.f175.body).getD .skip, T.ofList [], 19⟩
theorem xf175_ok : GoodF Tryz.prog 175 xf175 := ⟨Tryz.func175, by kernel_rfl, inferInstance, by kernel_rfl⟩
noncomputable def xf179 : XF := ⟨Tryz.f179, (Tryz.f179.body).getD .skip, T.ofList [], 1⟩
theorem xf179_ok : GoodF Tryz.prog 179 xf179 := ⟨Tryz.func179, by kernel_rfl, inferInstance, by kernel_rfl⟩
noncomputable def xf180 : XF := ⟨Tryz.f180, (Tryz.f180.body).getD .skip, T.ofList [], 135⟩
theorem xf180_ok : GoodF Tryz.prog 180 xf180 := ⟨Tryz.func180, by kernel_rfl, inferInstance, by kernel_rfl⟩
noncomputable def xf181 : XF := ⟨Tryz.f181, (Tryz.f181.body).getD .skip, T.ofList [], 3⟩
theorem xf181_ok : GoodF Tryz.prog 181 xf181 := ⟨Tryz.func181, by kernel_rfl, inferInstance, by kernel_rfl⟩
noncomputable def xf182 : XF := ⟨Tryz.f182, (Tryz.f182.body).getD .skip, T.ofList [], 3⟩
theorem xf182_ok : GoodF Tryz.prog 182 xf182 := ⟨Tryz.func182, by kernel_rfl, inferInstance, by kernel_rfl⟩
noncomputable def xf183 : XF := ⟨Tryz.f183, (Tryz.f183.body).getD .skip, T.ofList [], 3⟩
theorem xf183_ok : GoodF Tryz.prog 183 xf183 := ⟨Tryz.func183, by kernel_rfl, inferInstance, by kernel_rfl⟩
noncomputable def xf184 : XF := ⟨Tryz.f184, (Tryz.f184.body).getD .skip, T.ofList [], 3⟩
theorem xf184_ok : GoodF Tryz.prog 184 xf184 := ⟨Tryz.func184, by kernel_rfl, inferInstance, by kernel_rfl⟩
noncomputable def xf185 : XF := ⟨Tryz.f185, (Tryz.f185.body).getD .skip, T.ofList [], 4211⟩
theorem xf185_ok : GoodF Tryz.prog 185 xf185 := ⟨Tryz.func185, by kernel_rfl, inferInstance, by kernel_rfl⟩
noncomputable def xf186 : XF := ⟨Tryz.f186, (Tryz.f186.body).getD .skip, T.ofList [], 4211⟩
theorem xf186_ok : GoodF Tryz.prog 186 xf186 := ⟨Tryz.func186, by kernel_rfl, inferInstance, by kernel_rfl⟩
noncomputable def xf187 : XF := ⟨Tryz.f187, (Tryz.f187.body).getD .skip, T.ofList [(2, (13, .calm 0 <| .calm 2 <| .calm 3 <| .calm 4 <| .calm 5 <| .calm 6 <| .calm 7 <| .calm 8 <| .calm 9 <| .calm 10 <| .calm 11 <| .must 1 <| .must 12 <| .done)), (4, (11, .calm 0 <| .calm 1 <| .calm 2 <| .calm 3 <| .calm 4 <| .calm 5 <| .calm 6 <| .calm 7 <| .calm 8 <| .calm 9 <| .calm 10 <| .must 11 <| .done))], 13⟩
theorem xf187_ok : GoodF Tryz.prog 187 xf187 := ⟨Tryz.func187, by kernel_rfl, inferInstance, by kernel_rfl⟩
noncomputable def xf188 : XF := ⟨Tryz.f188, (Tryz.f188.body).getD .skip, T.ofList [], 4211⟩
theorem xf188_ok : GoodF Tryz.prog 188 xf188 := ⟨Tryz.func188, by kernel_rfl, inferInstance, by kernel_rfl⟩
noncomputable def xf189 : XF := ⟨Tryz.f189, (Tryz.f189.body).getD .skip, T.ofList [], 4211⟩
theorem xf189_ok : GoodF Tryz.prog 189 xf189 := ⟨Tryz.func189, by kernel_rfl, inferInstance, by kernel_rfl⟩
noncomputable def xf190 : XF := ⟨Tryz.f190, (Tryz.f190.body).getD .skip, T.ofList [], 61⟩
theorem xf190_ok : GoodF Tryz.prog 190 xf190 := ⟨Tryz.func190, by kernel_rfl, inferInstance, by kernel_rfl⟩
noncomputable def tabL : List (Nat × XF) := [(5, xf5), (6, xf6), (7, xf7), (8, xf8), (10, xf10), (13, xf13), (15, xf15), (20, xf20), (21, xf21), (22, xf22), (23, xf23), (24, xf24), (25, xf25), (26, xf26), (27, xf27), (28, xf28), (29, xf29), (30, xf30), (31, xf31), (33, xf33), (35, xf35), (48, xf48), (49, xf49), (50, xf50), (51, xf51), (52, xf52), (53, xf53), (54, xf54), (55, xf55), (56, xf56), (57, xf57), (58, xf58), (68, xf68), (69, xf69), (70, xf70), (71, xf71), (72, xf72), (73, xf73), (74, xf74), (75, xf75), (84, xf84), (85, xf85), (86, xf86), (87, xf87), (88, xf88), (89, xf89), (90, xf90), (91, xf91), (92, xf92), (93, xf93), (94, xf94), (95, xf95), (96, xf96), (97, xf97), (108, xf108), (109, xf109), (110, xf110), (111, xf111), (112, xf112), (113, xf113), (114, xf114), (118, xf118), (119, xf119), (120, xf120), (121, xf121), (122, xf122), (123, xf123), (131, xf131), (135, xf135), (168, xf168), (169, xf169), (170, xf170), (171, xf171), (172, xf172), (173, xf173), (174, xf174), (175, xf175), (179, xf179), (180, xf180), (181, xf181), (182, xf182), (183, xf183), (184, xf184), (185, xf185), (186, xf186), (187, xf187), (188, xf188), (189, xf189), (190, xf190)]
noncomputable def tab : T XF := T.ofList tabL
theorem tab_ok : ∀ f x, tab.get f = some x → GoodF Tryz.prog f x := fun f x h => GoodL.mem (l := tabL) ⟨xf5_ok, xf6_ok, xf7_ok, xf8_ok, xf10_ok, xf13_ok, xf15_ok, xf20_ok, xf21_ok, xf22_ok, xf23_ok, xf24_ok, xf25_ok, xf26_ok, xf27_ok, xf28_ok, xf29_ok, xf30_ok, xf31_ok, xf33_ok, xf35_ok, xf48_ok, xf49_ok, xf50_ok, xf51_ok, xf52_ok, xf53_ok, xf54_ok, xf55_ok, xf56_ok, xf57_ok, xf58_ok, xf68_ok, xf69_ok, xf70_ok, xf71_ok, xf72_ok, xf73_ok, xf74_ok, xf75_ok, xf84_ok, xf85_ok, xf86_ok, xf87_ok, xf88_ok, xf89_ok, xf90_ok, xf91_ok, xf92_ok, xf93_ok, xf94_ok, xf95_ok, xf96_ok, xf97_ok, xf108_ok, xf109_ok, xf110_ok, xf111_ok, xf112_ok, xf113_ok, xf114_ok, xf118_ok, xf119_ok, xf120_ok, xf121_ok, xf122_ok, xf123_ok, xf131_ok, xf135_ok, xf168_ok, xf169_ok, xf170_ok, xf171_ok, xf172_ok, xf173_ok, xf174_ok, xf175_ok, xf179_ok, xf180_ok, xf181_ok, xf182_ok, xf183_ok, xf184_ok, xf185_ok, xf186_ok, xf187_ok, xf188_ok, xf189_ok, xf190_ok, trivial⟩ (f, x) (T.get_ofList h)
theorem works_run : trueG Tryz.prog tab 100000 doorPr doorH 200 5 = true := by kernel_rfl
end W22
theorem works22_fn {L : List (Nat × Obj)} (h : HandleIn L) : Fn Tryz.prog 5 [] L (fun v L' => v = .bool true ∧ L' = L) := by
  obtain ⟨cs, E, fr, h1, h2⟩ := h
  exact runD doorPr_ok mixed W22.tab_ok (doorH_cov h2) doorH_zero W22.works_run h1
end Go.Proofs.YtdiaogcogkapgaaGreatDoor
namespace Go.Proofs.YtdiaogcogkapgaaGreatDoor
open Go.ChangeShapes Go.WideShapes Go.ChangeAt Go.RowKit
theorem ownOf : ownKnob Tryz.prog.godebug = none := by kernel_rfl
theorem laidOf : laidOutB Tryz.prog = true := by kernel_rfl
def allL (W : World) : List (Nat × Obj) := W.heap.toList.zipIdx.map fun p => (p.2, p.1)
theorem allL_get {W : World} {b : Nat} {o : Obj} (h : W.heap[b]? = some o) : (allL W)[b]? = some (b, o) := by
  simp [allL, h]
theorem allL_mem {W : World} {p : Nat × Obj} : p ∈ allL W → W.heap[p.1]? = some p.2 := fun h => by
  simp only [allL, List.mem_map] at h
  obtain ⟨⟨o, b⟩, h1, rfl⟩ := h
  have := List.mem_zipIdx_iff_getElem?.1 h1
  simpa using this
theorem allL_mem_of {W : World} {b : Nat} {o : Obj} (h : W.heap[b]? = some o) : (b, o) ∈ allL W := List.mem_of_getElem? (allL_get h)
theorem mem_allL (W : World) : Mem W (allL W) W where
  os := rfl
  tape := rfl
  output := rfl
  size := Nat.le_refl _
  nodup := by
    have : (allL W).map Prod.fst = List.range W.heap.size := by
      simp only [allL, List.map_map]
      apply List.ext_getElem?
      intro i
      simp only [List.getElem?_map, List.getElem?_zipIdx, Array.getElem?_toList]
      by_cases h : i < W.heap.size
      · simp [h]
      · simp [h]
    rw [this]; exact List.nodup_range
  has := fun _ h => allL_mem h
theorem below_of_mem {W W' : World} (h : Mem W (allL W) W') : Below W.heap.size W W' where
  os := h.os
  tape := h.tape
  output := h.output
  size := h.size
  block := fun k hk => by
    have h1 : W.heap[k]? = some W.heap[k] := Array.getElem?_eq_getElem hk
    rw [h1]
    exact h.has (k, W.heap[k]) (allL_mem_of h1)
theorem trodAll_stays {H : Type} {enc : TypeId × Value → H} {P : Program} (hl : laidOutB P = true) {W W' : World} (hb : Below W.heap.size W W') : ∀ {ts : List TypeId} {vs : List Value} {ds : List (DataW H)} {ps : List MemPlace},
    (∀ t ∈ ts, P.readableRec t = true ∧ t < P.types.size) → DataW.TrodAll enc P W 0 (fun _ => true) true ts vs ds ps → (∀ x ∈ ps, x.block < W.heap.size) → DataW.TrodAll enc P W' 0 (fun b => decide (b < W.heap.size)) true ts vs ds ps
  | [], _, _, _, _, h, _ => by obtain ⟨rfl, rfl, rfl⟩ := trodAll_nil h; exact trodAll_mk0
  | t :: ts, _, _, _, ht, h, hp => by
    obtain ⟨v, vs', d, ds', p, q, rfl, rfl, rfl, h1, h2⟩ := trodAll_cons h
    have h3 := ht t (by simp)
    exact ⟨p, q, Below.trod hl h3.1 h3.2 h1 hb (fun x hx => hp x (by simp [hx])), trodAll_stays hl hb (fun t' h' => ht t' (by simp [h'])) h2 (fun x hx => hp x (by simp [hx])), rfl⟩
theorem post_law {H : Type} {enc : TypeId × Value → H} {P : Program} {f : Func} {s : ChangeSpec} {W W' : World} {args : Array Value} {ds gs : List (DataW H)} {before : List MemPlace} {tb : TypeId} (hl : laidOutB P = true)
    (hts : (f.params.toList.all fun t => P.readableRec t && decide (t < P.types.size)) = true) (hv : s.vars = []) (hr : f.resultTypes = #[tb]) (hb : P.underlying tb = some .bool)
    (hfn : s.fn H (ds ++ gs) = { results := [.lit (.bool true)], args := ds }) (hW : DataW.Whole enc P f.params.toList s.vars false W args.toList ds gs before) (hbel : Below W.heap.size W W') :
    s.post enc P f false true false false W args (.bool true) W' := by
  have hlt := hW.lt
  have hW' := hW
  obtain ⟨p, q, hA, hV, rfl, _, _⟩ := hW
  rw [hv] at hV
  obtain ⟨rfl, rfl⟩ := trodVars_none hV
  have hts' : ∀ t ∈ f.params.toList, P.readableRec t = true ∧ t < P.types.size := fun t ht => by
    have := List.all_eq_true.1 hts t ht
    simpa using this
  refine ⟨ds, [], p ++ [], [], p, [], hW', ?_, ?_, ?_, hbel.frame _, fun h => by cases h⟩
  · rw [hfn, hr]
    exact trodAll_mk1 (shut_bool hb true)
  · rw [hfn]
    exact trodAll_stays hl hbel hts' hA (fun x hx => by simpa using hlt x (by simp [hx]))
  · rw [hfn, hv]; rfl
theorem u8_bounds {x : Int} (h : (Lit.int .u8 x).wf = true) : 0 ≤ x ∧ x < 256 := by
  have h1 := h
  simp only [Lit.wf, Bool.and_eq_true, decide_eq_true_eq] at h1
  have e1 : IntKind.u8.min = 0 := rfl
  have e2 : IntKind.u8.max = 255 := rfl
  omega
end Go.Proofs.YtdiaogcogkapgaaGreatDoor
namespace Go.Proofs.YtdiaogcogkapgaaGreatDoor
open Go.ChangeShapes Go.WideShapes Go.ChangeAt Go.RowKit Go.Deep
structure Rd (α : Type) where
  n : Nat
  lie : List (Nat × Obj) → α → (Nat → Option Value) → Prop
  mono : ∀ {L a g g'}, (∀ k v, g k = some v → g' k = some v) → lie L a g → lie L a g'
def intR (k : IntKind) : Rd Int where
  n := 1
  lie := fun _ x g => g 0 = some (.int k x) ∧ (Lit.int k x).wf = true
  mono := fun h h1 => ⟨h _ _ h1.1, h1.2⟩
def pairR {α β : Type} (r : Rd α) (s : Rd β) : Rd (α × β) where
  n := r.n + s.n
  lie := fun L x g => r.lie L x.1 g ∧ s.lie L x.2 (fun k => g (r.n + k))
  mono := fun h h1 => ⟨r.mono h h1.1, s.mono (fun _ _ h2 => h _ _ h2) h1.2⟩
def SlLie {α : Type} (r : Rd α) (L : List (Nat × Obj)) (a : Option Addr) (xs : List α) : Prop :=
  xs = [] ∨ ∃ (b off : Nat) (cs : Array Value) (E : TypeId) (fr : Nat × Nat) (i : Nat), a = some ⟨b, off, none⟩ ∧ L[i]? = some (b, Obj.cells cs E fr) ∧ ∀ j x, xs[j]? = some x → r.lie L x (fun k => cs[off + j * r.n + k]?)
def sliceR {α : Type} (r : Rd α) : Rd (List α) where
  n := 1
  lie := fun L xs g => ∃ a cap, g 0 = some (.slice a xs.length cap) ∧ xs.length ≤ cap ∧ cap ≤ maxLen ∧ SlLie r L a xs
  mono := fun h ⟨a, cap, h1, h2⟩ => ⟨a, cap, h _ _ h1, h2⟩
def Sound {α : Type} (P : Program) (t : TypeId) (r : Rd α) : Prop :=
  P.cellsOf t = r.n ∧ ∀ {H : Type} {enc : TypeId × Value → H} {W : World} {fuel : Nat} {cs : List Value} {x : DataW H × List MemPlace}, DataW.trod enc P W 0 (fun _ => true) true fuel t cs = some x → ∃ a, r.lie (allL W) a (fun k => cs[k]?)
variable {P : Program} {t : TypeId}
theorem sound_int {k : IntKind} (ht : P.underlying t = some (.int k)) (hc : P.cellsOf t = 1) : Sound P t (intR k) := ⟨hc, fun h => by
  obtain ⟨n, rfl, _, hw⟩ := DataW.trod_int ht h
  exact ⟨n, rfl, hw⟩⟩
theorem cut_get {cs : List Value} {o n k : Nat} {v : Value} (h : ((cs.drop o).take n)[k]? = some v) : cs[o + k]? = some v := by
  rw [List.getElem?_take] at h
  split at h
  · rwa [List.getElem?_drop] at h
  · cases h
theorem choose_list {α : Type} {n : Nat} {p : Nat → α → Prop} (h : ∀ i, i < n → ∃ x, p i x) : ∃ xs : List α, xs.length = n ∧ ∀ i x, xs[i]? = some x → p i x := by
  induction n with
  | zero => exact ⟨[], rfl, by simp⟩
  | succ n ih =>
    obtain ⟨xs, h1, h2⟩ := ih fun i hi => h i (by omega)
    obtain ⟨x, hx⟩ := h n (by omega)
    refine ⟨xs ++ [x], by simp [h1], fun i y hy => ?_⟩
    by_cases hi : i < n
    · rw [List.getElem?_append_left (by omega)] at hy; exact h2 i y hy
    · rw [List.getElem?_append_right (by omega)] at hy
      have : i = n := by
        have := (List.getElem?_eq_some_iff.1 hy).1
        simp at this; omega
      subst this
      rw [h1, Nat.sub_self] at hy
      simp at hy; subst hy; exact hx
theorem cells_get {W : World} {a : Addr} {n k : Nat} {cs : List Value} (h : W.cells? 0 a n = some cs) (hk : k < n) : ∃ v, cs[k]? = some v ∧ W.cell? (a.add k) = some v := by
  obtain ⟨_, hl, hat⟩ := World.cells?_some h
  exact ⟨cs[k]'(by omega), List.getElem?_eq_getElem (by omega), by rw [hat k hk, List.getElem?_eq_getElem (by omega)]⟩
theorem sound_slice {α : Type} {r : Rd α} {e : TypeId} (ht : P.underlying t = some (.slice e)) (hc : P.cellsOf t = 1) (hr : 0 < r.n) (he : Sound P e r) : Sound P t (sliceR r) := ⟨hc, fun {H enc W fuel cs x} h => by
  rcases open_slice ht h with ⟨rfl, _⟩ | ⟨a, len, cap, m, n, D, Pl, rfl, _, hl, hm, hmm, _, hi⟩
  · exact ⟨[], none, 0, rfl, Nat.le_refl _, Nat.zero_le _, .inl rfl⟩
  · simp only [if_true] at hmm
    subst hmm
    by_cases h0 : len = 0
    · subst h0; exact ⟨[], some a, m, rfl, Nat.zero_le _, hm, .inl rfl⟩
    rw [he.1] at hi
    have hblock : ∃ b off cs E fr, a = ⟨b, off, none⟩ ∧ W.heap[b]? = some (Obj.cells cs E fr) := by
      obtain ⟨cs', h1, _⟩ := hi 0 (by omega)
      obtain ⟨v, _, hv⟩ := cells_get h1 hr
      have e0 : (a.add (0 * r.n)).add 0 = a := by simp [Addr.add]
      rw [e0] at hv
      obtain ⟨b, off, spot⟩ := a
      simp only [World.cell?] at hv
      split at hv
      · rename_i cs E fr hb
        split at hv
        · cases hv
        · rename_i hs
          have hs' : spot = none := by cases spot with | none => rfl | some _ => simp at hs
          subst hs'
          exact ⟨b, off, cs, E, fr, rfl, hb⟩
      · cases hv
    obtain ⟨b, off, cs, E, fr, rfl, hb⟩ := hblock
    obtain ⟨ys, h1, h2⟩ := choose_list (n := len) (p := fun j x => r.lie (allL W) x (fun k => cs[off + j * r.n + k]?)) fun i hlt => by
      obtain ⟨cs', hc1, ht1⟩ := hi i (by omega)
      obtain ⟨x, hx⟩ := he.2 ht1
      refine ⟨x, r.mono (fun k v hk => ?_) hx⟩
      have hk2 : k < r.n := by
        obtain ⟨_, hl2, _⟩ := World.cells?_some hc1
        have := (List.getElem?_eq_some_iff.1 hk).1
        omega
      obtain ⟨v', e1, e2⟩ := cells_get hc1 hk2
      rw [hk] at e1; cases e1
      rw [add_add, Addr.add_mid, World.cell?] at e2
      simp only [hb] at e2
      rw [Nat.add_assoc]
      simpa using e2
    exact ⟨ys, some ⟨b, off, none⟩, m, by rw [h1]; rfl, by omega, hm, .inr ⟨b, off, cs, E, fr, b, rfl, allL_get hb, h2⟩⟩⟩
def SoundF {α : Type} (P : Program) (fs : List Field) (off : Nat) (r : Rd α) : Prop :=
  ∀ {H : Type} {enc : TypeId × Value → H} {W : World} {n : Nat} {cs : List Value} {xs : List (DataW H × List MemPlace)}, xs.length = fs.length →
    (∀ (i : Nat) (f : Field), fs[i]? = some f → DataW.trod enc P W 0 (fun _ => true) true n f.type ((cs.drop f.offset).take (P.cellsOf f.type)) = xs[i]?) → ∃ a, r.lie (allL W) a (fun k => cs[off + k]?)
theorem soundF_one {α : Type} {r : Rd α} {f : Field} {off : Nat} (h : Sound P f.type r) (ho : f.offset = off) : SoundF P [f] off r := fun {H enc W n cs xs} hl hi => by
  have h1 := hi 0 f rfl
  obtain ⟨y, hy⟩ : ∃ y, xs[0]? = some y := ⟨xs[0]'(by simp [hl]), List.getElem?_eq_getElem _⟩
  rw [hy] at h1
  obtain ⟨a, ha⟩ := h.2 h1
  refine ⟨a, r.mono (fun k v hk => ?_) ha⟩
  have := cut_get hk
  rwa [ho] at this
theorem soundF_cons {α β : Type} {r : Rd α} {s : Rd β} {f : Field} {fs : List Field} {off : Nat} (h : Sound P f.type r) (ho : f.offset = off) (hs : SoundF P fs (off + r.n) s) : SoundF P (f :: fs) off (pairR r s) := fun {H enc W n cs xs} hl hi => by
  obtain ⟨y, xs, rfl⟩ : ∃ y ys, xs = y :: ys := by
    cases xs with
    | nil => simp at hl
    | cons y ys => exact ⟨y, ys, rfl⟩
  obtain ⟨a, ha⟩ := soundF_one (P := P) h ho (enc := enc) (W := W) (n := n) (cs := cs) (xs := [y]) rfl (fun i g hg => by
    cases i with
    | zero => exact hi 0 g hg
    | succ i => simp at hg)
  obtain ⟨b, hb⟩ := hs (enc := enc) (W := W) (n := n) (cs := cs) (xs := xs) (by simpa using hl) (fun i g hg => hi (i + 1) g hg)
  exact ⟨(a, b), ha, by simpa [Nat.add_assoc] using hb⟩
theorem sound_struct {α : Type} {r : Rd α} {fs : Array Field} (ht : P.underlying t = some (.struct fs)) (hc : P.cellsOf t = r.n) (h : SoundF P fs.toList 0 r) : Sound P t r := ⟨hc, fun hx => by
  obtain ⟨xs, n, _, _, _, hl, hi⟩ := DataW.trod_struct ht hx
  obtain ⟨a, ha⟩ := h (by simpa using hl) (fun i f hf => hi i f (by simpa using hf))
  exact ⟨a, by simpa using ha⟩⟩
theorem arg_slice {α : Type} {H : Type} {enc : TypeId × Value → H} {W : World} {rc : Reach} {b0 e : TypeId} {r : Rd α} {v : Value} {d : DataW H} {p : List MemPlace} (ht : P.underlying t = some (.slice e)) (hs : Sound P t (sliceR r))
    (hval : Value.okWide P W rc b0 t v) (h : DataW.Trod enc P W 0 (fun _ => true) true t v d p) : ∃ (a : Option Addr) (cap : Nat) (xs : List α), v = .slice a xs.length cap ∧ xs.length ≤ cap ∧ cap ≤ maxLen ∧ SlLie r (allL W) a xs := by
  obtain ⟨a0, len, cap, rfl⟩ := okWide_slice ht hval
  obtain ⟨fuel, hf⟩ := h
  obtain ⟨xs, a, cap', h1, h2⟩ := hs.2 hf
  simp [Value.cells] at h1
  obtain ⟨rfl, rfl, rfl⟩ := h1
  exact ⟨_, _, xs, rfl, h2⟩
end Go.Proofs.YtdiaogcogkapgaaGreatDoor
namespace Go.Proofs.YtdiaogcogkapgaaGreatDoor
open Go.RowKit
def ChAt (L : List (Nat × Obj)) (v : Value) (n : Nat) : Prop := ∃ a cap, v = .slice a n cap ∧ n ≤ cap ∧ cap ≤ maxLen ∧ ∀ j, j < n → ∃ (g off : Nat) (cur : Array Value) (E : TypeId) (fr : Nat × Nat) (i : Nat) (what k : Nat), a = some ⟨g, off, none⟩ ∧ L[i]? = some (g, .cells cur E fr) ∧ what < 256 ∧ k < 256 ∧ cur[off + j * 2]? = some (.int .u8 (what : Nat)) ∧ cur[off + j * 2 + 1]? = some (.int .u8 (k : Nat))
theorem chs_of {L : List (Nat × Obj)} {a : Option Addr} {cap : Nat} {xs : List (Int × Int)} (h : xs.length ≤ cap) (hm : cap ≤ maxLen) (hx : SlLie (pairR (intR .u8) (intR .u8)) L a xs) : ChAt L (.slice a xs.length cap) xs.length := by
  refine ⟨a, cap, rfl, h, hm, fun j hj => ?_⟩
  rcases hx with rfl | ⟨b, off, cs, E, fr, i, rfl, hi, hc⟩
  · simp at hj
  · obtain ⟨⟨c0, w0⟩, ⟨c1, w1⟩⟩ := hc j _ (List.getElem?_eq_getElem hj)
    have u0 := u8_bounds w0
    have u1 := u8_bounds w1
    have c0 : cs[off + j * 2]? = some (.int .u8 (xs[j]'hj).1) := c0
    have c1 : cs[off + j * 2 + 1]? = some (.int .u8 (xs[j]'hj).2) := c1
    refine ⟨b, off, cs, E, fr, i, (xs[j]'hj).1.toNat, (xs[j]'hj).2.toNat, rfl, hi, by omega, by omega, ?_, ?_⟩
    · rw [c0, Int.toNat_of_nonneg u0.1]
    · rw [c1, Int.toNat_of_nonneg u1.1]
theorem BufW.at_ {T : List (Nat × Obj)} {ws : List Way} {v : Value} (h : BufW v T ws) {k : Nat} {w : Way} (hk : ws[k]? = some w) : ∃ g off cap cur, v = .slice (some ⟨g, off, none⟩) ws.length cap ∧ ws.length ≤ cap ∧ T = [(g, .cells cur 50 (0, 0))] ∧ off + k * 2 + 2 ≤ cur.size ∧ cur.extract (off + k * 2) (off + k * 2 + 2) = w.c.toArray := by
  have hlt := (List.getElem?_eq_some_iff.1 hk).1
  rcases h with ⟨_, h2, _⟩ | ⟨g, off, cap, cur, rfl, rfl, ho⟩
  · omega
  · have hf := ho.fit
    have hle := ho.le
    have hfl : ∀ (l : List Way) (k : Nat) (w : Way), l[k]? = some w → ((l.map Way.c).flatten)[k * 2]? = some (.string (bstr w.s)) ∧ ((l.map Way.c).flatten)[k * 2 + 1]? = some (.bool w.out) := by
      intro l
      induction l with
      | nil => intro k w hk; simp at hk
      | cons x l ih =>
        intro k w hk
        rw [List.map_cons, List.flatten_cons]
        cases k with
        | zero => obtain rfl : x = w := by simpa using hk
                  exact ⟨rfl, rfl⟩
        | succ k =>
          have := ih k w (by simpa using hk)
          have e1 : (k + 1) * 2 = k * 2 + 2 := by omega
          have e2 : (k + 1) * 2 + 1 = k * 2 + 1 + 2 := by omega
          rw [e1, show k * 2 + 2 + 1 = (k * 2 + 1) + 2 by omega]
          rw [List.getElem?_append_right (by simp [Way.c]), List.getElem?_append_right (by simp [Way.c])]
          exact this
    obtain ⟨f0, f1⟩ := hfl ws k w hk
    have a0 := ho.at_ _ _ f0
    have a1 := ho.at_ _ _ f1
    have hsz : off + k * 2 + 2 ≤ cur.size := by
      have := (Array.getElem?_eq_some_iff.1 a1).1
      omega
    refine ⟨g, off, cap, cur, rfl, hle, rfl, hsz, ?_⟩
    apply Array.ext_getElem?
    intro q
    rw [Array.getElem?_extract]
    match q with
    | 0 => rw [if_pos (by omega)]; exact a0
    | 1 => rw [if_pos (by omega), Nat.add_assoc]; exact a1
    | q + 2 => rw [if_neg (by omega)]; rfl
theorem BufW.app {ws : List Way} {w : Way} {v : Value} {T : List (Nat × Obj)} (h : Buf 50 2 v T (ws.length + 1) ((ws.map Way.c).flatten ++ w.c)) : BufW v T (ws ++ [w]) := by
  unfold BufW
  rw [List.length_append, List.map_append, List.flatten_append]
  simpa using h
theorem BufW.app2 {ws us : List Way} {v : Value} {T : List (Nat × Obj)} (h : Buf 50 2 v T (ws.length + us.length) ((ws.map Way.c).flatten ++ (us.map Way.c).flatten)) : BufW v T (ws ++ us) := by
  unfold BufW
  rw [List.length_append, List.map_append, List.flatten_append]
  exact h
theorem way_one (ws : List Way) : ∀ u ∈ (ws.map Way.c).flatten, u.oneCell' = true := fun u hu => by
  obtain ⟨l, hl, hu⟩ := List.mem_flatten.1 hu
  obtain ⟨w, _, rfl⟩ := List.mem_map.1 hl
  simp only [Way.c, List.mem_cons, List.not_mem_nil, or_false] at hu
  rcases hu with rfl | rfl <;> rfl
theorem ways_len (ws : List Way) : (ws.map Way.c).flatten.length = ws.length * 2 := by
  induction ws with
  | nil => rfl
  | cons w ws ih => rw [List.map_cons, List.flatten_cons, List.length_append, ih, List.length_cons]; simp [Way.c]; omega
theorem ways_take (ws : List Way) (k : Nat) : (ws.map Way.c).flatten.take (k * 2) = ((ws.take k).map Way.c).flatten := by
  induction ws generalizing k with
  | nil => simp
  | cons w ws ih =>
    cases k with
    | zero => simp
    | succ k =>
      rw [List.take_succ_cons, List.map_cons, List.map_cons, List.flatten_cons, List.flatten_cons, ← ih k, show (k + 1) * 2 = k * 2 + 2 by omega]
      rfl
theorem ways_drop (ws : List Way) (k : Nat) : (ws.map Way.c).flatten.drop (k * 2) = ((ws.drop k).map Way.c).flatten := by
  induction ws generalizing k with
  | nil => simp
  | cons w ws ih =>
    cases k with
    | zero => simp
    | succ k =>
      rw [List.drop_succ_cons, List.map_cons, List.flatten_cons, ← ih k, show (k + 1) * 2 = k * 2 + 2 by omega]
      rfl
attribute [local irreducible] Fn WC WL WR OW Qt YieldFn QW FnP FnD FnE
section
variable {ob ib cap : Nat} {s : Pst} {SO SI F : List (Nat × Obj)}
def Pst.more (s : Pst) : Pst := { s with pushed := s.pushed + 1 }
def Pst.less (s : Pst) : Pst := { s with popped := s.popped + 1 }
theorem pushS (h : Sys ob ib SO SI cap s) (hs : s.Ok cap) (hp : s.pushed < 1000) : Fn Tryz.prog 8 [.pointer (some ⟨ob, 0, none⟩), .agg (mkC s.pushed).toArray] (SO ++ F) (fun r L' => (s.pushed - s.base = cap ∧ r = .int .i64 8 ∧ ∃ SO', L' = SO' ++ F ∧ Sys ob ib SO' SI cap s) ∨ (s.pushed - s.base < cap ∧ r = .int .i64 0 ∧ ∃ SO', L' = SO' ++ F ∧ Sys ob ib SO' SI cap s.more ∧ s.more.Ok cap)) := by
  have b1 := hs.h4; have b2 := hs.h2; have b3 := hs.h3
  refine (push22_fn (F := F) (n := s.pushed) (by omega) h.out).mono ?_
  rintro _ _ ⟨rfl, S', rfl, h'⟩
  rw [waits_len] at h' ⊢
  by_cases hf : s.pushed - s.base = cap
  · rw [if_pos hf] at h' ⊢
    exact .inl ⟨hf, rfl, S', rfl, h', h.inn⟩
  · rw [if_neg hf] at h' ⊢
    have e : waits s ++ [mkC s.pushed] = waits s.more := by
      show _ = (List.range' s.base (s.pushed + 1 - s.base)).map mkC
      rw [show s.pushed + 1 - s.base = (s.pushed - s.base) + 1 by omega, List.range'_1_concat, List.map_append, show s.base + (s.pushed - s.base) = s.pushed by omega]
      rfl
    rw [e] at h'
    exact .inr ⟨by omega, rfl, S', rfl, ⟨h', h.inn⟩, ⟨hs.c1, hs.c2, hs.h1, hs.h2, by show s.next ≤ s.pushed + 1; omega, by show s.pushed + 1 ≤ s.base + cap; omega, hs.h5, by show s.pushed + 1 ≤ 1000; omega, hs.h7⟩⟩
theorem pumpS0 (h : Sys ob ib SO SI cap s) (h0 : s.pushed = s.base) {k : Int} : Fn Tryz.prog 10 [.pointer (some ⟨ob, 0, none⟩), .int .i64 k] (SO ++ F) (fun r L' => r = .tuple #[.string (bstr []), .bool false] ∧ L' = SO ++ F) := by
  have e : waits s = [] := by unfold waits; rw [h0, Nat.sub_self]; rfl
  have := h.out
  rw [e] at this
  exact pump_none this
def Pst.at_ (s : Pst) (k : Nat) : Nat := s.base + k % mayN (s.pushed - s.base) s.base s.limit
theorem Pst.at_lt {s : Pst} (h : s.base < s.pushed) (k : Nat) : s.at_ k < s.pushed ∧ s.base ≤ s.at_ k := by
  obtain ⟨m1, m2⟩ := mayN_pos (len := s.pushed - s.base) (base := s.base) (limit := s.limit) (by omega)
  have := Nat.mod_lt k m1
  unfold Pst.at_
  omega
theorem Pst.at_zero (s : Pst) : s.at_ 0 = s.base := by unfold Pst.at_; rw [Nat.zero_mod]; rfl
theorem pumpS (h : Sys ob ib SO SI cap s) (hs : s.Ok cap) (h0 : s.base < s.pushed) {k : Nat} (hk : k < 256) : Fn Tryz.prog 10 [.pointer (some ⟨ob, 0, none⟩), .int .i64 (k : Nat)] (SO ++ F) (fun r L' => r = .tuple #[.string (bstr (Way.dat (s.at_ k)).s), .bool true] ∧ L' = SO ++ F) := by
  have b6 := hs.h6; have b7 := hs.h7
  obtain ⟨q1, q2⟩ := Pst.at_lt h0 k
  have hl := waits_len s
  have e : s.base + k % mayN (waits s).length s.base s.limit = s.at_ k := by rw [hl]; rfl
  have hg : (waits s)[k % mayN (waits s).length s.base s.limit]? = some (mkC (s.at_ k)) := by
    rw [waits_get (by omega), e]
  have := pump_fn (F := F) (lf := 4) h.out (by decide) hg (by omega) (by omega) (by omega) (by omega)
  rw [e] at this
  exact this
theorem popS (h : Sys ob ib SO SI cap s) (hs : s.Ok cap) (h0 : s.popped < s.next) : Fn Tryz.prog 15 [.pointer (some ⟨ib, 0, none⟩)] (SI ++ F) (fun r L' => r = .int .i64 0 ∧ ∃ SI', L' = SI' ++ F ∧ Sys ob ib SO SI' cap s.less ∧ s.less.Ok cap) := by
  have e : List.range' s.popped (s.next - s.popped) = s.popped :: List.range' (s.popped + 1) (s.next - (s.popped + 1)) := by
    rw [show s.next - s.popped = (s.next - (s.popped + 1)) + 1 by omega, List.range'_succ]
  have h1 := h.inn
  rw [e] at h1
  have b5 := hs.h5
  refine (ipop_fn (F := F) h1).mono ?_
  rintro _ _ ⟨rfl, S', rfl, h'⟩
  exact ⟨rfl, S', rfl, ⟨h.out, h'⟩, ⟨hs.c1, hs.c2, by show s.popped + 1 ≤ s.next; omega, hs.h2, hs.h3, hs.h4, by show s.next ≤ s.popped + 1 + cap; omega, hs.h6, hs.h7⟩⟩
theorem popS0 (h : Sys ob ib SO SI cap s) (h0 : s.popped = s.next) : Fn Tryz.prog 15 [.pointer (some ⟨ib, 0, none⟩)] (SI ++ F) (fun r L' => r = .int .i64 9 ∧ L' = SI ++ F) := by
  have h1 := h.inn
  rw [h0, Nat.sub_self] at h1
  exact ipop0_fn h1
theorem headS (h : Sys ob ib SO SI cap s) : Fn Tryz.prog 13 [.pointer (some ⟨ib, 0, none⟩)] (SI ++ F) (fun r L' => ∃ m : Array Value, (m.size = 24 ∧ (m.toList.all fun v => v.oneCell') = true ∧ (s.popped < s.next → m[8]? = some (.int .i64 (s.popped : Nat))) ∧ r = .tuple #[.agg m, .bool (decide (s.popped < s.next))]) ∧ L' = SI ++ F) := by
  refine (ihead_fn (F := F) h.inn).mono ?_
  rintro _ _ ⟨m, ⟨h1, h2, h3, rfl⟩, rfl⟩
  by_cases h0 : s.popped < s.next
  · have e : List.range' s.popped (s.next - s.popped) = s.popped :: List.range' (s.popped + 1) (s.next - (s.popped + 1)) := by
      rw [show s.next - s.popped = (s.next - (s.popped + 1)) + 1 by omega, List.range'_succ]
    rw [e] at h3 ⊢
    exact ⟨m, ⟨h1, h2, fun _ => h3 _ rfl, by rw [decide_eq_true h0]; rfl⟩, rfl⟩
  · have e : s.next - s.popped = 0 := by omega
    rw [e] at h3 ⊢
    exact ⟨m, ⟨h1, h2, fun h => absurd h h0, by rw [decide_eq_false h0]; rfl⟩, rfl⟩
theorem ilenS (h : Sys ob ib SO SI cap s) : Fn Tryz.prog 14 [.pointer (some ⟨ib, 0, none⟩)] (SI ++ F) (fun r L' => r = .int .i64 ((s.next - s.popped : Nat) : Int) ∧ L' = SI ++ F) := by
  have := ilen_fn (F := F) h.inn
  rw [List.length_range'] at this
  exact this
theorem olenS (h : Sys ob ib SO SI cap s) : Fn Tryz.prog 12 [.pointer (some ⟨ob, 0, none⟩)] (SO ++ F) (fun r L' => r = .int .i64 ((s.pushed - s.base : Nat) : Int) ∧ L' = SO ++ F) := by
  have := len22_fn (F := F) h.out
  rw [waits_len] at this
  exact this
theorem leftS (h : Sys ob ib SO SI cap s) : Fn Tryz.prog 11 [.pointer (some ⟨ob, 0, none⟩)] (SO ++ F) (fun r L' => r = .int .i64 ((cap - (s.pushed - s.base) : Nat) : Int) ∧ L' = SO ++ F) := by
  have := left22_fn (F := F) h.out
  rw [waits_len] at this
  exact this
end
end Go.Proofs.YtdiaogcogkapgaaGreatDoor
