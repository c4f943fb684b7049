/-
  A part of what the last of these texts needs; by itself it proves no statement.
-/
import Derived.ProofKit
import Derived.Deep.Slices
import Derived.OpenShut
import Derived.Test.YtmdiabglbmgkkaaKP3
namespace Go.Proofs.Ytmdiabglbmgkkaa
open Go.RowKit
abbrev F1 := List UInt8 × Nat
def addF (b : List UInt8) (x : F1) : F1 := if 1048576 < x.1.length + b.length then x else (x.1 ++ b, x.2)
def syncF (x : F1) : F1 := if x.1 = [] then x else (x.1, x.1.length)
def cutF (many : Int) (x : F1) : F1 := if x.1 = [] ∨ many < 0 ∨ (x.1.length : Int) < many then x else (x.1.take many.toNat, many.toNat)
theorem appG_up {g : FG} {n : Int} {b : List UInt8} (hn : 0 ≤ n) : appG g n b = upG g n (addF b (g n)) := by
  unfold appG addF
  rw [if_neg (by omega)]
  by_cases h : 1048576 < (g n).1.length + b.length
  · rw [if_pos h, if_pos h, upG_self]
  · rw [if_neg h, if_neg h]
theorem syncG_up {g : FG} {n : Int} : syncG g n = upG g n (syncF (g n)) := by
  unfold syncG syncF
  by_cases h : (g n).1 = []
  · rw [if_pos h, if_pos h, upG_self]
  · rw [if_neg h, if_neg h]
theorem cutG_up {g : FG} {n many : Int} : cutG g n many = upG g n (cutF many (g n)) := by
  unfold cutG cutF cutE
  by_cases h : (g n).1 = []
  · rw [if_pos h, if_neg (by decide), if_pos (.inl h), upG_self]
  · rw [if_neg h]
    by_cases h2 : many < 0 ∨ ((g n).1.length : Int) < many
    · rw [if_pos h2, if_neg (by decide), if_pos (.inr h2), upG_self]
    · rw [if_neg h2, if_pos rfl, if_neg (by rintro (h' | h'); exact h h'; exact h2 h')]
theorem rise_eq : ∀ {a b : List Int}, Rise a → Rise b → a.Nodup → b.Nodup → (∀ x, x ∈ a ↔ x ∈ b) → a = b
  | [], [], _, _, _, _, _ => rfl
  | [], y :: b, _, _, _, _, h => absurd ((h y).2 (List.mem_cons_self ..)) (by simp)
  | x :: a, [], _, _, _, _, h => absurd ((h x).1 (List.mem_cons_self ..)) (by simp)
  | x :: a, y :: b, ha, hb, na, nb, h => by
    obtain ⟨a1, a2⟩ := List.pairwise_cons.1 ha
    obtain ⟨b1, b2⟩ := List.pairwise_cons.1 hb
    obtain ⟨n1, n2⟩ := List.nodup_cons.1 na
    obtain ⟨m1, m2⟩ := List.nodup_cons.1 nb
    have e : x = y := by
      have h1 : y ≤ x := by
        rcases List.mem_cons.1 ((h x).1 (List.mem_cons_self ..)) with g | g
        · omega
        · exact b1 x g
      have h2 : x ≤ y := by
        rcases List.mem_cons.1 ((h y).2 (List.mem_cons_self ..)) with g | g
        · omega
        · exact a1 y g
      omega
    subst e
    rw [rise_eq a2 b2 n2 m2 fun z => ?_]
    constructor
    · intro hz
      rcases List.mem_cons.1 ((h z).1 (List.mem_cons_of_mem _ hz)) with g | g
      · exact absurd (g ▸ hz) n1
      · exact g
    · intro hz
      rcases List.mem_cons.1 ((h z).2 (List.mem_cons_of_mem _ hz)) with g | g
      · exact absurd (g ▸ hz) m1
      · exact g
def Few (g : FG) : Prop := ∀ n, (g n).1 ≠ [] → 0 ≤ n ∧ n < 7
def keys7 (g : FG) : List Int := (([0, 1, 2, 3, 4, 5, 6] : List Int)).filter fun n => !(g n).1.isEmpty
theorem mem_keys7 {g : FG} (h : Few g) (n : Int) : n ∈ keys7 g ↔ (g n).1 ≠ [] := by
  unfold keys7
  rw [List.mem_filter]
  constructor
  · rintro ⟨_, h2⟩
    simpa using h2
  · intro hne
    refine ⟨?_, by simpa using hne⟩
    obtain ⟨h1, h2⟩ := h n hne
    have : n = 0 ∨ n = 1 ∨ n = 2 ∨ n = 3 ∨ n = 4 ∨ n = 5 ∨ n = 6 := by omega
    simpa using this
theorem keys7_rise (g : FG) : Rise (keys7 g) ∧ (keys7 g).Nodup := by
  unfold keys7
  exact ⟨List.Pairwise.sublist List.filter_sublist (by decide), List.Nodup.sublist List.filter_sublist (by decide)⟩
theorem keys7_eq {g : FG} (h : Few g) {xs : List Int} (h1 : Rise xs) (h2 : xs.Nodup) (h3 : ∀ n, n ∈ xs ↔ (g n).1 ≠ []) : xs = keys7 g :=
  rise_eq h1 (keys7_rise g).1 h2 (keys7_rise g).2 fun n => (h3 n).trans (mem_keys7 h n).symm
theorem Few.up {g : FG} (h : Few g) {n : Int} {x : F1} (hn : x.1 ≠ [] → 0 ≤ n ∧ n < 7) : Few (upG g n x) := fun m hm => by
  unfold upG at hm
  by_cases e : m = n
  · rw [if_pos e] at hm; rw [e]; exact hn hm
  · rw [if_neg e] at hm; exact h m hm
theorem Few.app {g : FG} (h : Few g) {n : Int} (hn : n < 7) (b : List UInt8) : Few (appG g n b) := by
  by_cases h0 : n < 0
  · unfold appG; rw [if_pos h0]; exact h
  · rw [appG_up (by omega)]; exact h.up fun _ => ⟨by omega, hn⟩
theorem Few.sync {g : FG} (h : Few g) (n : Int) : Few (syncG g n) := by
  rw [syncG_up]
  refine h.up fun hne => h n fun e => ?_
  unfold syncF at hne
  rw [if_pos e] at hne
  exact hne e
theorem Few.cut {g : FG} (h : Few g) (n many : Int) : Few (cutG g n many) := by
  rw [cutG_up]
  refine h.up fun hne => h n fun e => ?_
  unfold cutF at hne
  rw [if_pos (.inl e)] at hne
  exact hne e
theorem Few.zero : Few (fun _ => ([], 0)) := fun _ h => absurd rfl h
theorem crashes_few : ∀ {xs : List Int} {g : FG} {ch : List UInt8}, Few g → Few (crashes xs g ch).1
  | [], _, _, h => h
  | x :: xs, g, ch, h => by
    have h1 : Few (crash1 (g, ch) x).1 := by
      unfold crash1
      split
      · refine h.up fun hne => h x fun e => ?_
        dsimp only at hne
        rw [e, List.take_nil] at hne
        exact hne rfl
      · split
        · refine h.up fun hne => h x fun e => ?_
          dsimp only at hne
          rw [e, List.take_nil] at hne
          exact hne rfl
        · refine h.up fun hne => h x fun e => ?_
          dsimp only at hne
          rw [e, List.take_nil] at hne
          exact hne rfl
    exact crashes_few (xs := xs) (g := (crash1 (g, ch) x).1) (ch := (crash1 (g, ch) x).2) h1
def crashG (g : FG) (ch : List UInt8) : FG := (crashes (keys7 g) g ch).1
theorem files7_st {sb : Nat} {S F : List (Nat × Obj)} {g : FG} (h : StAt sb S g) (hf : Few g) : Fn Try.prog 13 [fP sb] (S ++ F) (fun r L' => ∃ T, BufI r T (keys7 g) ∧ L' = T ++ (S ++ F)) :=
  (files_st h (fun n hn => by have := hf n hn; omega)).mono fun v L' ⟨xs, T, h1, h2, h3, h4, h5⟩ => ⟨T, by rw [← keys7_eq hf h1 h2 h3]; exact h4, h5⟩
theorem crash7_st {sb : Nat} {S F : List (Nat × Obj)} {g : FG} {chv : Value} {ch : List UInt8} (h : StAt sb S g) (hf : Few g) (hch : ByAt F chv ch) :
    Fn Try.prog 23 [fP sb, chv] (S ++ F) (fun v L' => v = .tuple #[] ∧ ∃ S', L' = S' ++ F ∧ StAt sb S' (crashG g ch)) :=
  (crash_st h (fun n hn => by have := hf n hn; omega) hch).mono fun v L' ⟨h0, xs, S', h1, h2, h3, h4, h5⟩ => ⟨h0, S', h4, by unfold crashG; rw [← keys7_eq hf h1 h2 h3]; exact h5⟩
attribute [local irreducible] Fn WC WL WR OW Qt YieldFn QW
theorem reads_st {sb : Nat} {S F : List (Nat × Obj)} {g : FG} {n : Int} {b : List UInt8} (h : StAt sb S g) : Fn Try.prog 22 [fP sb, .int .i64 n, .string (bstr b)] (S ++ F) (fun r L' => r = .bool ((g n).1 == b) ∧ L' = S ++ F) := by
  refine Fn_enter Try.func22 rfl Try.ntmps22 rfl fun gw => ?_
  repeat (first | ((first | refine WL_Q ?_ | refine WL_Y ?_); (first | refine QW_a ?_)) | ((first | refine WL_op rfl ?_ | refine WL_yes (h := ?_)); (first | refine OW_callP rfl (hF := read_st h) (hk := ?_))) | refine WL_nil ?_ | refine WL_un (h := ?_) | refine WL_N ?_ | refine WL_M ?_ | refine WC_seq ?_ | refine WC_ret ?_ | refine WC_region ?_)
  by_cases hb : (g n).1 = b
  · have e1 : ((g n).1 == b) = true := by simpa using hb
    rw [e1]
    have e2 : ((syncE g n == 0) == !(b == [])) = true := by
      unfold syncE
      rw [hb]
      by_cases h0 : b = []
      · rw [if_pos h0, h0]; rfl
      · rw [if_neg h0]
        have : (b == []) = false := by simpa using h0
        rw [this]; rfl
    repeat (first | ((first | refine WL_Q ?_ | refine WL_Y ?_); (first | refine QW_a ?_)) | ((first | refine WL_op rfl ?_ | refine WL_yes (h := ?_)); (first | refine OW_callP rfl (hF := read_st h) (hk := ?_))) | refine WL_nil ?_ | refine WL_un (h := ?_) | refine WL_N ?_ | refine WL_M ?_ | refine WC_seq ?_ | refine WC_ret ?_ | refine WC_region ?_)
    exact ⟨rfl, _, _, Res1 rfl (resV_tmp rfl), .refl _, by rw [e2], rfl⟩
  · have e1 : ((g n).1 == b) = false := by simpa using hb
    rw [e1]
    repeat (first | ((first | refine WL_Q ?_ | refine WL_Y ?_); (first | refine QW_a ?_)) | ((first | refine WL_op rfl ?_ | refine WL_yes (h := ?_)); (first | refine OW_callP rfl (hF := read_st h) (hk := ?_))) | refine WL_nil ?_ | refine WL_un (h := ?_) | refine WL_N ?_ | refine WL_M ?_ | refine WC_seq ?_ | refine WC_ret ?_ | refine WC_region ?_)
    exact ⟨rfl, _, _, Res1 rfl (resV_tmp rfl), .refl _, rfl, rfl⟩
end Go.Proofs.Ytmdiabglbmgkkaa
namespace Go.Proofs.Ytmdiabglbmgkkaa
open Go.RowKit
theorem WL_dropS {c : Cx} {ops : Array Oper} {l : List Oper} {K : Exit → St → Prop} {s : List (Nat × Value)} {D : List Deferred} {L L' : List (Nat × Obj)} (hs : L'.Sublist L) (h : WL c ops l K ⟨s, D, L'⟩) : WL c ops l K ⟨s, D, L⟩ := fun a w ha => h a w (ha.mem' (ha.mem.sublist hs))
attribute [local irreducible] Fn WC WL WR OW Qt YieldFn QW
abbrev g0 : FG := fun _ => ([], 0)
abbrev g1 : FG := appG g0 0 [97, 98]
abbrev g2 : FG := syncG g1 0
abbrev g3 : FG := appG g2 0 [99, 100, 101]
abbrev g4 : FG := appG g3 3 [120]
abbrev g5 : FG := crashG g4 [2]
abbrev g6 : FG := appG g5 0 [122]
abbrev g7 : FG := cutG g6 0 3
abbrev g8 : FG := crashG g7 []
abbrev g9 : FG := cutG g8 0 0
theorem few4 : Few g4 := (((Few.zero.app (by decide) _).sync _).app (by decide) _).app (by decide) _
theorem few5 : Few g5 := crashes_few few4
theorem few7 : Few g7 := (few5.app (by decide) _).cut _ _
theorem few9 : Few g9 := (crashes_few few7).cut _ _
theorem ev1 : appE g0 0 [97, 98] = 0 ∧ syncE g1 0 = 0 ∧ appE g2 0 [99, 100, 101] = 0 ∧ appE g3 3 [120] = 0 ∧ keys7 g4 = [0, 3] ∧ (g4 0).2 = 2 ∧ ((g4 0).1 == [97, 98, 99, 100, 101]) = true := by decide
theorem ev2 : keys7 g5 = [0] ∧ ((g5 0).1 == [97, 98, 99, 100]) = true := by decide
theorem ev3 : cutE g6 0 3 = 0 ∧ ((g8 0).1 == [97, 98, 99]) = true ∧ cutE g8 0 0 = 0 ∧ keys7 g9 = [] := by decide
theorem ByAt.one (b E : Nat) (fr : Nat × Nat) (u : UInt8) (L : List (Nat × Obj)) : ByAt ((b, .cells #[bV u] E fr) :: L) (.slice (some ⟨b, 0, none⟩) 1 1) [u] :=
  ⟨rfl, _, 1, rfl, Nat.le_refl _, by decide, .inr ⟨b, 0, _, E, fr, 0, rfl, rfl, fun j x hj => by
    cases j with
    | zero => simpa using hj
    | succ j => simp at hj⟩⟩
theorem int_eq {a b : Int} (h : a = b) : some (Value.int .i64 a) = some (Value.int .i64 b) := by rw [h]
set_option maxHeartbeats 8000000 in
theorem works15_fn {L : List (Nat × Obj)} : Fn Try.prog 8 [] L (fun v L' => v = .bool true ∧ L' = L) := by
  refine Fn_enter Try.func8 rfl Try.ntmps8 rfl fun gw => ?_
  repeat (first | ((first | refine WL_Q ?_); (first | refine QW_a ?_)) | ((first | refine WL_op rfl ?_); (first | (refine OW_call rfl (hF := new_fn) (hk := ?_); rintro _ _ ⟨sb, S', rfl, rfl, h'⟩) | (refine OW_call rfl (hF := append_st (by assumption) (by decide)) (hk := ?_); rintro _ _ ⟨rfl, S', rfl, h'⟩) | (refine OW_call rfl (hF := sync_st (by assumption)) (hk := ?_); rintro _ _ ⟨rfl, S', rfl, h'⟩))) | refine WL_nil ?_ | refine WC_seq ?_ | refine WC_cond_t (ht := ?_) | refine WC_cond_f (he := ?_) | refine WC_skip ?_ | refine WC_ret ?_ | refine WC_region (id := 0) ?_ | refine WC_region (id := 1) ?_ | refine WC_region (id := 2) ?_ | refine WC_region (id := 4) ?_)
  have h4 : StAt sb S' g4 := h'
  have hf4 := few4
  obtain ⟨v1, v2, v3, v4, v5, v6, v7⟩ := ev1
  refine WC_wk [(5, iV 0), (4, iV 0), (3, iV 0), (2, iV 0), (1, fP sb)] ⟨int_eq v4, int_eq v3, int_eq v2, int_eq v1, rfl, trivial⟩ ?_
  clear v1 v2 v3 v4
  repeat (first | ((first | refine WL_Q ?_); (first | refine QW_a ?_)) | ((first | refine WL_op rfl ?_); (first | (refine OW_call rfl (hF := files7_st h4 hf4) (hk := ?_); rintro r _ ⟨T, hT, rfl⟩))) | refine WL_nil ?_ | refine WC_seq ?_ | refine WC_cond_t (ht := ?_) | refine WC_cond_f (he := ?_) | refine WC_skip ?_ | refine WC_ret ?_ | refine WC_region (id := 5) ?_)
  rw [v5] at hT
  rcases hT with ⟨_, h2, _⟩ | ⟨gT, oT, cT, cuT, rfl, rfl, hT⟩
  · cases h2
  have t0 : cuT[oT + (0 : Int).toNat * 1]? = some (iV 0) := OwnI.at_i hT rfl rfl
  have t1 : cuT[oT + (1 : Int).toNat * 1]? = some (iV 3) := OwnI.at_i hT rfl rfl
  refine WC_permA (L' := S' ++ ([(gT, .cells cuT 3 (0, 0))] ++ L)) (List.perm_append_comm_assoc ..) ?_
  repeat (first | ((first | refine WL_Q ?_); (first | refine QW_a ?_)) | ((first | refine WL_op rfl ?_); (first | refine OW_callP rfl (hF := synced_st (by assumption)) (hk := ?_) | refine OW_callP rfl (hF := reads_st (by assumption)) (hk := ?_))) | refine WL_nil ?_ | refine WC_seq ?_ | refine WC_cond_t (ht := ?_) | refine WC_cond_f (he := ?_) | refine WC_skip ?_ | refine WC_ret ?_ | refine WC_region (id := 6) ?_ | refine WC_region (id := 7) ?_)
  rw [v6, v7]
  repeat (first | ((first | refine WL_Q ?_); (first | refine QW_a ?_)) | ((first | refine WL_op rfl ?_); (first | refine OW_build1 rfl (hk := fun _ => ?_))) | refine WL_nil ?_ | refine WC_seq ?_ | refine WC_cond_t (ht := ?_) | refine WC_cond_f (he := ?_) | refine WC_skip ?_ | refine WC_ret ?_ | refine WC_region (id := 8) ?_)
  rename_i bx
  have hch := ByAt.one bx 5 (0, 0) 2 ([(gT, Obj.cells cuT 3 (0, 0))] ++ L)
  refine WL_permA (L' := S' ++ ((bx, .cells #[bV 2] 5 (0, 0)) :: ([(gT, .cells cuT 3 (0, 0))] ++ L))) List.perm_middle ?_
  refine WL_op rfl (OW_call rfl (hF := crash7_st h4 hf4 hch) (hk := ?_))
  rintro _ _ ⟨rfl, S5, rfl, h5⟩
  have h5 : StAt sb S5 g5 := h5
  have hf5 := few5
  obtain ⟨w1, w2⟩ := ev2
  clear hch h4
  refine WL_dropS (L' := S5 ++ ([(gT, .cells cuT 3 (0, 0))] ++ L)) (.append (.refl _) (.cons _ (.refl _))) ?_
  repeat (first | ((first | refine WL_Q ?_); (first | refine QW_a ?_)) | ((first | refine WL_op rfl ?_); (first | refine OW_build1 rfl (hk := fun _ => ?_) | (refine OW_call rfl (hF := files7_st h5 hf5) (hk := ?_); rintro r _ ⟨T, hU, rfl⟩))) | refine WL_nil ?_ | refine WC_seq ?_ | refine WC_cond_t (ht := ?_) | refine WC_cond_f (he := ?_) | refine WC_skip ?_ | refine WC_ret ?_ | refine WC_region (id := 8) ?_ | refine WC_region (id := 9) ?_)
  rw [w1] at hU
  rcases hU with ⟨_, h2, _⟩ | ⟨gU, oU, cU, cuU, rfl, rfl, hU⟩
  · cases h2
  have u0 : cuU[oU + (0 : Int).toNat * 1]? = some (iV 0) := OwnI.at_i hU rfl rfl
  refine WC_permA (L' := S5 ++ ([(gU, .cells cuU 3 (0, 0))] ++ ([(gT, .cells cuT 3 (0, 0))] ++ L))) (List.perm_append_comm_assoc ..) ?_
  repeat (first | ((first | refine WL_Q ?_); (first | refine QW_a ?_)) | ((first | refine WL_op rfl ?_); (first | refine OW_callP rfl (hF := reads_st (by assumption)) (hk := ?_))) | refine WL_nil ?_ | refine WC_seq ?_ | refine WC_cond_t (ht := ?_) | refine WC_cond_f (he := ?_) | refine WC_skip ?_ | refine WC_ret ?_ | refine WC_region (id := 10) ?_)
  rw [w2]
  repeat (first | ((first | refine WL_Q ?_); (first | refine QW_a ?_)) | ((first | refine WL_op rfl ?_); (first | (refine OW_call rfl (hF := append_st (by assumption) (by decide)) (hk := ?_); rintro _ _ ⟨rfl, S', rfl, h'⟩) | (refine OW_call rfl (hF := cut_st (by assumption)) (hk := ?_); rintro _ _ ⟨rfl, S', rfl, h'⟩))) | refine WL_nil ?_ | refine WC_seq ?_ | refine WC_cond_t (ht := ?_) | refine WC_cond_f (he := ?_) | refine WC_skip ?_ | refine WC_ret ?_ | refine WC_region (id := 11) ?_ | refine WC_region (id := 12) ?_ | refine WC_region (id := 13) ?_)
  have h7 : StAt sb S' g7 := h'
  have hf7 := few7
  obtain ⟨x1, x2, x3, x4⟩ := ev3
  refine WL_op rfl (OW_call rfl (hF := crash7_st h7 hf7 (ByAt.nil _)) (hk := ?_))
  rintro _ _ ⟨rfl, S8, rfl, h8⟩
  have h8 : StAt sb S8 g8 := h8
  clear h7 h5 h'
  repeat (first | ((first | refine WL_Q ?_); (first | refine QW_a ?_)) | ((first | refine WL_op rfl ?_); (first | refine OW_callP rfl (hF := reads_st (by assumption)) (hk := ?_))) | refine WL_nil ?_ | refine WC_seq ?_ | refine WC_cond_t (ht := ?_) | refine WC_cond_f (he := ?_) | refine WC_skip ?_ | refine WC_ret ?_ | refine WC_region (id := 13) ?_ | refine WC_region (id := 14) ?_)
  rw [x2]
  repeat (first | ((first | refine WL_Q ?_); (first | refine QW_a ?_)) | ((first | refine WL_op rfl ?_); (first | (refine OW_call rfl (hF := remove_st (by assumption)) (hk := ?_); rintro _ _ ⟨rfl, S', rfl, h'⟩))) | refine WL_nil ?_ | refine WC_seq ?_ | refine WC_cond_t (ht := ?_) | refine WC_cond_f (he := ?_) | refine WC_skip ?_ | refine WC_ret ?_ | refine WC_region (id := 15) ?_)
  have h9 : StAt sb S' g9 := h'
  have hf9 := few9
  refine WC_wk [(13, iV 0), (12, .bool true), (11, iV 0), (10, .bool true), (9, .slice (some ⟨gU, oU, none⟩) ([0] : List Int).length cU), (8, .bool true), (7, iV 2), (6, .slice (some ⟨gT, oT, none⟩) ([0, 3] : List Int).length cT), (5, iV 0), (4, iV 0), (3, iV 0), (2, iV 0), (1, fP sb)] ⟨int_eq x3, rfl, int_eq x1, rfl, rfl, rfl, rfl, rfl, rfl, rfl, rfl, rfl, rfl, trivial⟩ ?_
  refine WC_permA (L' := (gU, .cells cuU 3 (0, 0)) :: (gT, .cells cuT 3 (0, 0)) :: (S' ++ L)) (List.perm_append_comm_assoc [_, _] S' L) ?_
  repeat (first | ((first | refine WL_Q ?_ | refine WL_Y ?_); (first | refine QW_a ?_)) | refine WL_nil ?_ | refine WL_un (h := ?_) | refine WL_N ?_ | refine WL_M ?_ | refine WC_seq ?_ | refine WC_cond_t (ht := ?_) | refine WC_cond_f (he := ?_) | refine WC_skip ?_ | refine WC_ret ?_ | refine WC_app (id := 16) (by simp only [List.append]; rfl) ?_ | refine WC_region (id := 16) ?_)
  refine WL_permA (L' := S' ++ ([(gU, .cells cuU 3 (0, 0)), (gT, .cells cuT 3 (0, 0))] ++ L)) (List.perm_append_comm_assoc S' [_, _] L) ?_
  refine WL_yes rfl rfl rfl rfl rfl (OW_call rfl (hF := files7_st h9 hf9) (hk := ?_))
  rintro _ _ ⟨W, hW, rfl⟩
  rw [x4] at hW
  obtain ⟨aW, cW, rfl, _, _⟩ := hW.val
  repeat (first | ((first | refine WL_Q ?_ | refine WL_Y ?_); (first | refine QW_a ?_)) | refine WL_nil ?_ | refine WL_un (h := ?_) | refine WL_N ?_ | refine WL_M ?_ | refine WC_seq ?_ | refine WC_cond_t (ht := ?_) | refine WC_cond_f (he := ?_) | refine WC_skip ?_ | refine WC_ret ?_ | refine WC_app (id := 16) (by simp only [List.append]; rfl) ?_ | refine WC_region (id := 16) ?_)
  exact ⟨rfl, _, L, Res1 rfl (resV_tmp rfl), .trans (.trans (List.sublist_append_right _ _) (List.sublist_append_right _ _)) (List.sublist_append_right _ _), rfl, rfl⟩
end Go.Proofs.Ytmdiabglbmgkkaa
namespace Go.Proofs.Ytmdiabglbmgkkaa
open Go.ChangeShapes Go.WideShapes Go.ChangeAt Go.RowKit
theorem ownOf : ownKnob Try.prog.godebug = none := by kernel_rfl
theorem laidOf : laidOutB Try.prog = true := by kernel_rfl
def allL (W : World) : List (Nat × Obj) := W.heap.toList.zipIdx.map fun p => (p.2, p.1)
theorem allL_get {W : World} {b : Nat} {o : Obj} (h : W.heap[b]? = some o) : (allL W)[b]? = some (b, o) := by
  simp [allL, h]
theorem allL_mem {W : World} {p : Nat × Obj} : p ∈ allL W → W.heap[p.1]? = some p.2 := fun h => by
  simp only [allL, List.mem_map] at h
  obtain ⟨⟨o, b⟩, h1, rfl⟩ := h
  have := List.mem_zipIdx_iff_getElem?.1 h1
  simpa using this
theorem allL_mem_of {W : World} {b : Nat} {o : Obj} (h : W.heap[b]? = some o) : (b, o) ∈ allL W := List.mem_of_getElem? (allL_get h)
theorem mem_allL (W : World) : Mem W (allL W) W where
  os := rfl
  tape := rfl
  output := rfl
  size := Nat.le_refl _
  nodup := by
    have : (allL W).map Prod.fst = List.range W.heap.size := by
      simp only [allL, List.map_map]
      apply List.ext_getElem?
      intro i
      simp only [List.getElem?_map, List.getElem?_zipIdx, Array.getElem?_toList]
      by_cases h : i < W.heap.size
      · simp [h]
      · simp [h]
    rw [this]; exact List.nodup_range
  has := fun _ h => allL_mem h
theorem below_of_mem {W W' : World} (h : Mem W (allL W) W') : Below W.heap.size W W' where
  os := h.os
  tape := h.tape
  output := h.output
  size := h.size
  block := fun k hk => by
    have h1 : W.heap[k]? = some W.heap[k] := Array.getElem?_eq_getElem hk
    rw [h1]
    exact h.has (k, W.heap[k]) (allL_mem_of h1)
theorem trodAll_stays {H : Type} {enc : TypeId × Value → H} {P : Program} (hl : laidOutB P = true) {W W' : World} (hb : Below W.heap.size W W') : ∀ {ts : List TypeId} {vs : List Value} {ds : List (DataW H)} {ps : List MemPlace},
    (∀ t ∈ ts, P.readableRec t = true ∧ t < P.types.size) → DataW.TrodAll enc P W 0 (fun _ => true) true ts vs ds ps → (∀ x ∈ ps, x.block < W.heap.size) → DataW.TrodAll enc P W' 0 (fun b => decide (b < W.heap.size)) true ts vs ds ps
  | [], _, _, _, _, h, _ => by obtain ⟨rfl, rfl, rfl⟩ := trodAll_nil h; exact trodAll_mk0
  | t :: ts, _, _, _, ht, h, hp => by
    obtain ⟨v, vs', d, ds', p, q, rfl, rfl, rfl, h1, h2⟩ := trodAll_cons h
    have h3 := ht t (by simp)
    exact ⟨p, q, Below.trod hl h3.1 h3.2 h1 hb (fun x hx => hp x (by simp [hx])), trodAll_stays hl hb (fun t' h' => ht t' (by simp [h'])) h2 (fun x hx => hp x (by simp [hx])), rfl⟩
theorem post_law {H : Type} {enc : TypeId × Value → H} {P : Program} {f : Func} {s : ChangeSpec} {W W' : World} {args : Array Value} {ds gs : List (DataW H)} {before : List MemPlace} {tb : TypeId} (hl : laidOutB P = true)
    (hts : (f.params.toList.all fun t => P.readableRec t && decide (t < P.types.size)) = true) (hv : s.vars = []) (hr : f.resultTypes = #[tb]) (hb : P.underlying tb = some .bool)
    (hfn : s.fn H (ds ++ gs) = { results := [.lit (.bool true)], args := ds }) (hW : DataW.Whole enc P f.params.toList s.vars false W args.toList ds gs before) (hbel : Below W.heap.size W W') :
    s.post enc P f false true false false W args (.bool true) W' := by
  have hlt := hW.lt
  have hW' := hW
  obtain ⟨p, q, hA, hV, rfl, _, _⟩ := hW
  rw [hv] at hV
  obtain ⟨rfl, rfl⟩ := trodVars_none hV
  have hts' : ∀ t ∈ f.params.toList, P.readableRec t = true ∧ t < P.types.size := fun t ht => by
    have := List.all_eq_true.1 hts t ht
    simpa using this
  refine ⟨ds, [], p ++ [], [], p, [], hW', ?_, ?_, ?_, hbel.frame _, fun h => by cases h⟩
  · rw [hfn, hr]
    exact trodAll_mk1 (shut_bool hb true)
  · rw [hfn]
    exact trodAll_stays hl hbel hts' hA (fun x hx => by simpa using hlt x (by simp [hx]))
  · rw [hfn, hv]; rfl
theorem u8_bounds {x : Int} (h : (Lit.int .u8 x).wf = true) : 0 ≤ x ∧ x < 256 := by
  have h1 := h
  simp only [Lit.wf, Bool.and_eq_true, decide_eq_true_eq] at h1
  have e1 : IntKind.u8.min = 0 := rfl
  have e2 : IntKind.u8.max = 255 := rfl
  omega
theorem i16_bounds {x : Int} (h : (Lit.int .i16 x).wf = true) : -32768 ≤ x ∧ x < 32768 := by
  have h1 := h
  simp only [Lit.wf, Bool.and_eq_true, decide_eq_true_eq] at h1
  have e1 : IntKind.i16.min = -32768 := rfl
  have e2 : IntKind.i16.max = 32767 := rfl
  omega
theorem lifted {C : Checked} {os : Os} {H : Type} {enc : TypeId × Value → H} {f : FuncId} {fn : Func} {s : ChangeSpec} {tb : TypeId} (own : ownKnob C.prog.godebug = none) (started : os.Started) (noInit : C.prog.inits.idxOf? f = none) (hfn : C.prog.funcs[f]? = some fn)
    (witness : ∃ (w : World) (tape : Tape) (i : Input), w.os = os ∧ (w.forCall tape i).Shaped C.prog ∧ i.vars = [] ∧ Input.okWide C.prog (w.forCall tape i) .any w.heap.size f i ∧ s.pre6 enc C.prog fn [] false (w.forCall tape i).memory i.args ∧ ({} : Assume).holds C.prog (lone (Frame.enter C.prog f i.args .normal) [] (w.forCall tape i)))
    (hl : laidOutB C.prog = true) (hts : (fn.params.toList.all fun t => C.prog.readableRec t && decide (t < C.prog.types.size)) = true) (hv : s.vars = []) (hr : fn.resultTypes = #[tb]) (hb : C.prog.underlying tb = some .bool)
    (hspec : ∀ ds : List (DataW H), ds.length = fn.params.size → s.fn H ds = { results := [.lit (.bool true)], args := ds })
    (h : ∀ (W : World) (base : Nat) (args : Array Value) (ds : List (DataW H)) (ps : List MemPlace), (∀ (j : Nat) t v, fn.params[j]? = some t → args[j]? = some v → Value.okWide C.prog W .any base t v) →
      DataW.TrodAll enc C.prog W 0 (fun _ => true) true fn.params.toList args.toList ds ps → W.noneFrozen ps → Fn C.prog f args.toList (allL W) fun v L' => v = .bool true ∧ L' = allL W) :
    ReturnsInHanded {} C os f .any (s.pre6 enc C.prog fn [] false) (s.post enc C.prog fn false true false false) := by
  refine returnsInHanded_of_change (C := C) own started noInit hfn witness ?_
  intro W base args ds gs before hval hW _ _
  have hW' := hW
  obtain ⟨p, q, hA, hV, rfl, hfz, _⟩ := hW
  rw [hv] at hV
  obtain ⟨rfl, rfl⟩ := trodVars_none hV
  have hlen : ∀ {ts : List TypeId} {vs : List Value} {ds : List (DataW H)} {ps : List MemPlace}, DataW.TrodAll enc C.prog W 0 (fun _ => true) true ts vs ds ps → ds.length = ts.length := by
    intro ts
    induction ts with
    | nil => intro vs ds ps h; obtain ⟨_, rfl, _⟩ := trodAll_nil h; rfl
    | cons t ts ih => intro vs ds ps h; obtain ⟨v, vs', d, ds', a, b, rfl, rfl, rfl, _, h2⟩ := trodAll_cons h; simp [ih h2]
  have hds := hspec ds (by rw [hlen hA]; simp)
  refine ((h W base args ds p hval hA (by simpa using hfz)) W W (mem_allL W)).mono fun e W' ⟨v, L', h1, h2, h3, h4⟩ => ?_
  subst h3; subst h4
  exact ⟨_, h1, post_law hl hts hv hr hb (by simpa using hds) hW' (below_of_mem h2)⟩
end Go.Proofs.Ytmdiabglbmgkkaa
namespace Go.Proofs.Ytmdiabglbmgkkaa
open Go.ChangeShapes Go.WideShapes Go.ChangeAt Go.RowKit Go.Deep
structure Rd (α : Type) where
  n : Nat
  lie : List (Nat × Obj) → α → (Nat → Option Value) → Prop
  mono : ∀ {L a g g'}, (∀ k v, g k = some v → g' k = some v) → lie L a g → lie L a g'
def intR (k : IntKind) : Rd Int where
  n := 1
  lie := fun _ x g => g 0 = some (.int k x) ∧ (Lit.int k x).wf = true
  mono := fun h h1 => ⟨h _ _ h1.1, h1.2⟩
def strR : Rd ByteArray where
  n := 1
  lie := fun _ x g => g 0 = some (.string x) ∧ x.size ≤ maxLen
  mono := fun h h1 => ⟨h _ _ h1.1, h1.2⟩
def pairR {α β : Type} (r : Rd α) (s : Rd β) : Rd (α × β) where
  n := r.n + s.n
  lie := fun L x g => r.lie L x.1 g ∧ s.lie L x.2 (fun k => g (r.n + k))
  mono := fun h h1 => ⟨r.mono h h1.1, s.mono (fun _ _ h2 => h _ _ h2) h1.2⟩
def SlLie {α : Type} (r : Rd α) (L : List (Nat × Obj)) (a : Option Addr) (xs : List α) : Prop :=
  xs = [] ∨ ∃ (b off : Nat) (cs : Array Value) (E : TypeId) (fr : Nat × Nat) (i : Nat), a = some ⟨b, off, none⟩ ∧ L[i]? = some (b, Obj.cells cs E fr) ∧ ∀ j x, xs[j]? = some x → r.lie L x (fun k => cs[off + j * r.n + k]?)
def sliceR {α : Type} (r : Rd α) : Rd (List α) where
  n := 1
  lie := fun L xs g => ∃ a cap, g 0 = some (.slice a xs.length cap) ∧ xs.length ≤ cap ∧ cap ≤ maxLen ∧ SlLie r L a xs
  mono := fun h ⟨a, cap, h1, h2⟩ => ⟨a, cap, h _ _ h1, h2⟩
def Sound {α : Type} (P : Program) (t : TypeId) (r : Rd α) : Prop :=
  P.cellsOf t = r.n ∧ ∀ {H : Type} {enc : TypeId × Value → H} {W : World} {fuel : Nat} {cs : List Value} {x : DataW H × List MemPlace}, DataW.trod enc P W 0 (fun _ => true) true fuel t cs = some x → ∃ a, r.lie (allL W) a (fun k => cs[k]?)
variable {P : Program} {t : TypeId}
theorem sound_int {k : IntKind} (ht : P.underlying t = some (.int k)) (hc : P.cellsOf t = 1) : Sound P t (intR k) := ⟨hc, fun h => by
  obtain ⟨n, rfl, _, hw⟩ := DataW.trod_int ht h
  exact ⟨n, rfl, hw⟩⟩
theorem sound_str (ht : P.underlying t = some .string) (hc : P.cellsOf t = 1) : Sound P t strR := ⟨hc, fun h => by
  obtain ⟨n, rfl, _, hw⟩ := DataW.trod_string ht h
  exact ⟨n, rfl, hw⟩⟩
theorem cut_get {cs : List Value} {o n k : Nat} {v : Value} (h : ((cs.drop o).take n)[k]? = some v) : cs[o + k]? = some v := by
  rw [List.getElem?_take] at h
  split at h
  · rwa [List.getElem?_drop] at h
  · cases h
theorem choose_list {α : Type} {n : Nat} {p : Nat → α → Prop} (h : ∀ i, i < n → ∃ x, p i x) : ∃ xs : List α, xs.length = n ∧ ∀ i x, xs[i]? = some x → p i x := by
  induction n with
  | zero => exact ⟨[], rfl, by simp⟩
  | succ n ih =>
    obtain ⟨xs, h1, h2⟩ := ih fun i hi => h i (by omega)
    obtain ⟨x, hx⟩ := h n (by omega)
    refine ⟨xs ++ [x], by simp [h1], fun i y hy => ?_⟩
    by_cases hi : i < n
    · rw [List.getElem?_append_left (by omega)] at hy; exact h2 i y hy
    · rw [List.getElem?_append_right (by omega)] at hy
      have : i = n := by
        have := (List.getElem?_eq_some_iff.1 hy).1
        simp at this; omega
      subst this
      rw [h1, Nat.sub_self] at hy
      simp at hy; subst hy; exact hx
theorem cells_get {W : World} {a : Addr} {n k : Nat} {cs : List Value} (h : W.cells? 0 a n = some cs) (hk : k < n) : ∃ v, cs[k]? = some v ∧ W.cell? (a.add k) = some v := by
  obtain ⟨_, hl, hat⟩ := World.cells?_some h
  exact ⟨cs[k]'(by omega), List.getElem?_eq_getElem (by omega), by rw [hat k hk, List.getElem?_eq_getElem (by omega)]⟩
theorem sound_slice {α : Type} {r : Rd α} {e : TypeId} (ht : P.underlying t = some (.slice e)) (hc : P.cellsOf t = 1) (hr : 0 < r.n) (he : Sound P e r) : Sound P t (sliceR r) := ⟨hc, fun {H enc W fuel cs x} h => by
  rcases open_slice ht h with ⟨rfl, _⟩ | ⟨a, len, cap, m, n, D, Pl, rfl, _, hl, hm, hmm, _, hi⟩
  · exact ⟨[], none, 0, rfl, Nat.le_refl _, Nat.zero_le _, .inl rfl⟩
  · simp only [if_true] at hmm
    subst hmm
    by_cases h0 : len = 0
    · subst h0; exact ⟨[], some a, m, rfl, Nat.zero_le _, hm, .inl rfl⟩
    rw [he.1] at hi
    have hblock : ∃ b off cs E fr, a = ⟨b, off, none⟩ ∧ W.heap[b]? = some (Obj.cells cs E fr) := by
      obtain ⟨cs', h1, _⟩ := hi 0 (by omega)
      obtain ⟨v, _, hv⟩ := cells_get h1 hr
      have e0 : (a.add (0 * r.n)).add 0 = a := by simp [Addr.add]
      rw [e0] at hv
      obtain ⟨b, off, spot⟩ := a
      simp only [World.cell?] at hv
      split at hv
      · rename_i cs E fr hb
        split at hv
        · cases hv
        · rename_i hs
          have hs' : spot = none := by cases spot with | none => rfl | some _ => simp at hs
          subst hs'
          exact ⟨b, off, cs, E, fr, rfl, hb⟩
      · cases hv
    obtain ⟨b, off, cs, E, fr, rfl, hb⟩ := hblock
    obtain ⟨ys, h1, h2⟩ := choose_list (n := len) (p := fun j x => r.lie (allL W) x (fun k => cs[off + j * r.n + k]?)) fun i hlt => by
      obtain ⟨cs', hc1, ht1⟩ := hi i (by omega)
      obtain ⟨x, hx⟩ := he.2 ht1
      refine ⟨x, r.mono (fun k v hk => ?_) hx⟩
      have hk2 : k < r.n := by
        obtain ⟨_, hl2, _⟩ := World.cells?_some hc1
        have := (List.getElem?_eq_some_iff.1 hk).1
        omega
      obtain ⟨v', e1, e2⟩ := cells_get hc1 hk2
      rw [hk] at e1; cases e1
      rw [add_add, Addr.add_mid, World.cell?] at e2
      simp only [hb] at e2
      rw [Nat.add_assoc]
      simpa using e2
    exact ⟨ys, some ⟨b, off, none⟩, m, by rw [h1]; rfl, by omega, hm, .inr ⟨b, off, cs, E, fr, b, rfl, allL_get hb, h2⟩⟩⟩
def SoundF {α : Type} (P : Program) (fs : List Field) (off : Nat) (r : Rd α) : Prop :=
  ∀ {H : Type} {enc : TypeId × Value → H} {W : World} {n : Nat} {cs : List Value} {xs : List (DataW H × List MemPlace)}, xs.length = fs.length →
    (∀ (i : Nat) (f : Field), fs[i]? = some f → DataW.trod enc P W 0 (fun _ => true) true n f.type ((cs.drop f.offset).take (P.cellsOf f.type)) = xs[i]?) → ∃ a, r.lie (allL W) a (fun k => cs[off + k]?)
theorem soundF_one {α : Type} {r : Rd α} {f : Field} {off : Nat} (h : Sound P f.type r) (ho : f.offset = off) : SoundF P [f] off r := fun {H enc W n cs xs} hl hi => by
  have h1 := hi 0 f rfl
  obtain ⟨y, hy⟩ : ∃ y, xs[0]? = some y := ⟨xs[0]'(by simp [hl]), List.getElem?_eq_getElem _⟩
  rw [hy] at h1
  obtain ⟨a, ha⟩ := h.2 h1
  refine ⟨a, r.mono (fun k v hk => ?_) ha⟩
  have := cut_get hk
  rwa [ho] at this
theorem soundF_cons {α β : Type} {r : Rd α} {s : Rd β} {f : Field} {fs : List Field} {off : Nat} (h : Sound P f.type r) (ho : f.offset = off) (hs : SoundF P fs (off + r.n) s) : SoundF P (f :: fs) off (pairR r s) := fun {H enc W n cs xs} hl hi => by
  obtain ⟨y, xs, rfl⟩ : ∃ y ys, xs = y :: ys := by
    cases xs with
    | nil => simp at hl
    | cons y ys => exact ⟨y, ys, rfl⟩
  obtain ⟨a, ha⟩ := soundF_one (P := P) h ho (enc := enc) (W := W) (n := n) (cs := cs) (xs := [y]) rfl (fun i g hg => by
    cases i with
    | zero => exact hi 0 g hg
    | succ i => simp at hg)
  obtain ⟨b, hb⟩ := hs (enc := enc) (W := W) (n := n) (cs := cs) (xs := xs) (by simpa using hl) (fun i g hg => hi (i + 1) g hg)
  exact ⟨(a, b), ha, by simpa [Nat.add_assoc] using hb⟩
theorem sound_struct {α : Type} {r : Rd α} {fs : Array Field} (ht : P.underlying t = some (.struct fs)) (hc : P.cellsOf t = r.n) (h : SoundF P fs.toList 0 r) : Sound P t r := ⟨hc, fun hx => by
  obtain ⟨xs, n, _, _, _, hl, hi⟩ := DataW.trod_struct ht hx
  obtain ⟨a, ha⟩ := h (by simpa using hl) (fun i f hf => hi i f (by simpa using hf))
  exact ⟨a, by simpa using ha⟩⟩
theorem arg_slice {α : Type} {H : Type} {enc : TypeId × Value → H} {W : World} {rc : Reach} {b0 e : TypeId} {r : Rd α} {v : Value} {d : DataW H} {p : List MemPlace} (ht : P.underlying t = some (.slice e)) (hs : Sound P t (sliceR r))
    (hval : Value.okWide P W rc b0 t v) (h : DataW.Trod enc P W 0 (fun _ => true) true t v d p) : ∃ (a : Option Addr) (cap : Nat) (xs : List α), v = .slice a xs.length cap ∧ xs.length ≤ cap ∧ cap ≤ maxLen ∧ SlLie r (allL W) a xs := by
  obtain ⟨a0, len, cap, rfl⟩ := okWide_slice ht hval
  obtain ⟨fuel, hf⟩ := h
  obtain ⟨xs, a, cap', h1, h2⟩ := hs.2 hf
  simp [Value.cells] at h1
  obtain ⟨rfl, rfl, rfl⟩ := h1
  exact ⟨_, _, xs, rfl, h2⟩
end Go.Proofs.Ytmdiabglbmgkkaa
namespace Go.Proofs.Ytmdiabglbmgkkaa
open Go.RowKit
structure ActR where
  what : Int
  file : Int
  n : Int
  b : List UInt8
structure ActR.Ok (x : ActR) : Prop where
  w0 : 0 ≤ x.what
  w1 : x.what < 256
  f0 : 0 ≤ x.file
  f1 : x.file < 256
  n0 : -32768 ≤ x.n
  n1 : x.n < 32768
  bl : x.b.length ≤ maxLen
abbrev actC (x : ActR) : Array Value := #[.int .u8 x.what, .int .u8 x.file, .int .i16 x.n, .string (bstr x.b)]
def ActsAt (L : List (Nat × Obj)) (v : Value) (l : List ActR) : Prop := (∀ x ∈ l, x.Ok) ∧ ∃ a cap, v = .slice a l.length cap ∧ l.length ≤ cap ∧ cap ≤ maxLen ∧ (l = [] ∨ ∃ (g off : Nat) (cur : Array Value) (E : TypeId) (fr : Nat × Nat) (i : Nat), a = some ⟨g, off, none⟩ ∧ L[i]? = some (g, .cells cur E fr) ∧ ∀ (j : Nat) (x : ActR), l[j]? = some x → cur.extract (off + j * 4) (off + j * 4 + 4) = actC x ∧ off + j * 4 + 4 ≤ cur.size)
theorem ActsAt.at_ {L : List (Nat × Obj)} {a : Option Addr} {cap : Nat} {l : List ActR} (h : ActsAt L (.slice a l.length cap) l) {j : Nat} {x : ActR} (hj : l[j]? = some x) : x.Ok ∧ ∃ (g off : Nat) (cur : Array Value) (E : TypeId) (fr : Nat × Nat) (i : Nat), a = some ⟨g, off, none⟩ ∧ L[i]? = some (g, .cells cur E fr) ∧ cur.extract (off + j * 4) (off + j * 4 + 4) = actC x ∧ off + j * 4 + 4 ≤ cur.size ∧ cur[off + j * 4]? = some (.int .u8 x.what) ∧ cur[off + j * 4 + 1]? = some (.int .u8 x.file) ∧ cur[off + j * 4 + 2]? = some (.int .i16 x.n) ∧ cur[off + j * 4 + 3]? = some (.string (bstr x.b)) := by
  obtain ⟨h0, a', cap', e, h2, h3, h4⟩ := h
  simp only [Value.slice.injEq] at e
  obtain ⟨rfl, _, rfl⟩ := e
  refine ⟨h0 x (List.mem_of_getElem? hj), ?_⟩
  rcases h4 with rfl | ⟨g, off, cur, E, fr, i, e1, e2, e3⟩
  · simp at hj
  · obtain ⟨q1, q2⟩ := e3 j x hj
    have get : ∀ k, k < 4 → cur[off + j * 4 + k]? = (actC x)[k]? := fun k hk => by
      rw [← q1, Array.getElem?_extract, if_pos (by omega)]
    exact ⟨g, off, cur, E, fr, i, e1, e2, q1, q2, get 0 (by decide), get 1 (by decide), get 2 (by decide), get 3 (by decide)⟩
theorem acts_of {L : List (Nat × Obj)} {a : Option Addr} {cap : Nat} {xs : List (Int × Int × Int × ByteArray)} (h : xs.length ≤ cap) (hm : cap ≤ maxLen) (hx : SlLie (pairR (intR .u8) (pairR (intR .u8) (pairR (intR .i16) strR))) L a xs) : ∃ l : List ActR, ActsAt L (.slice a xs.length cap) l := by
  refine ⟨xs.map fun x => ⟨x.1, x.2.1, x.2.2.1, x.2.2.2.data.toList⟩, ?_, a, cap, by rw [List.length_map], by rw [List.length_map]; exact h, hm, ?_⟩
  · intro y hy
    obtain ⟨x, hxm, rfl⟩ := List.mem_map.1 hy
    rcases hx with rfl | ⟨b, off, cs, E, fr, i, rfl, hi, hc⟩
    · simp at hxm
    · obtain ⟨j, hj⟩ := List.mem_iff_getElem?.1 hxm
      obtain ⟨⟨_, a1⟩, ⟨_, a2⟩, ⟨_, a3⟩, _, a4⟩ := hc j x hj
      have u1 := u8_bounds a1
      have u2 := u8_bounds a2
      have u3 := i16_bounds a3
      exact ⟨u1.1, u1.2, u2.1, u2.2, u3.1, u3.2, by simpa using a4⟩
  · rcases hx with rfl | ⟨b, off, cs, E, fr, i, rfl, hi, hc⟩
    · exact .inl rfl
    · refine .inr ⟨b, off, cs, E, fr, i, rfl, hi, fun j y hj => ?_⟩
      rw [List.getElem?_map] at hj
      cases hl : xs[j]? with
      | none => rw [hl] at hj; cases hj
      | some x =>
        rw [hl] at hj
        obtain rfl : _ = y := Option.some.inj hj
        obtain ⟨⟨c0, _⟩, ⟨c1, _⟩, ⟨c2, _⟩, c3, _⟩ := hc j x hl
        have c0 : cs[off + j * 4]? = some (.int .u8 x.1) := c0
        have c1 : cs[off + j * 4 + 1]? = some (.int .u8 x.2.1) := c1
        have c2 : cs[off + j * 4 + 2]? = some (.int .i16 x.2.2.1) := c2
        have c3 : cs[off + j * 4 + 3]? = some (.string x.2.2.2) := c3
        have hsz : off + j * 4 + 4 ≤ cs.size := by
          have := (Array.getElem?_eq_some_iff.1 c3).1
          omega
        refine ⟨?_, hsz⟩
        apply Array.ext_getElem?
        intro q
        rw [Array.getElem?_extract]
        match q with
        | 0 => rw [if_pos (by omega)]; exact c0
        | 1 => rw [if_pos (by omega)]; exact c1
        | 2 => rw [if_pos (by omega)]; exact c2
        | 3 => rw [if_pos (by omega), show off + j * 4 + 3 = off + j * 4 + 3 from rfl, c3]; exact congrArg (fun s => some (Value.string s)) (bstr_of x.2.2.2)
        | q + 4 => rw [if_neg (by omega)]; rfl
theorem take_min (l : List UInt8) (k : Int) (m : Nat) (hk : k = m) : l.take (if k < ((l.length : Nat) : Int) then k else ((l.length : Nat) : Int)).toNat = l.take m := by
  subst hk
  split
  · rw [Int.toNat_natCast]
  · rw [Int.toNat_natCast, List.take_length, List.take_of_length_le (by omega)]
attribute [local irreducible] Fn WC WL WR OW Qt YieldFn QW
end Go.Proofs.Ytmdiabglbmgkkaa
namespace Go.Proofs.Ytmdiabglbmgkkaa
open Go.RowKit
def fileN (x : ActR) : Int := x.file.tmod 5
theorem fileN_r {x : ActR} (h : x.Ok) : 0 ≤ fileN x ∧ fileN x < 5 := by
  unfold fileN
  have := h.f0
  exact ⟨Int.tmod_nonneg 5 h.f0, Int.tmod_lt_of_pos _ (by decide)⟩
theorem Fn.swapP {P : Program} {f : FuncId} {args : List Value} {A B C : List (Nat × Obj)} {x : Value} (h : Fn P f args (A ++ (B ++ C)) (fun v L' => v = x ∧ L' = A ++ (B ++ C))) : Fn P f args (B ++ (A ++ C)) (fun v L' => v = x ∧ L' = B ++ (A ++ C)) :=
  h.perm (List.perm_append_comm_assoc ..) fun v L' ⟨h1, h2⟩ => ⟨_, by rw [h2]; exact List.perm_append_comm_assoc .., h1, rfl⟩
attribute [local irreducible] Fn WC WL WR OW Qt YieldFn QW
end Go.Proofs.Ytmdiabglbmgkkaa
namespace Go.Proofs.Ytmdiabglbmgkkaa
open Go.RowKit
attribute [local irreducible] Fn WC WL WR OW Qt YieldFn QW
theorem file_fn {x : ActR} (hx : x.Ok) {L : List (Nat × Obj)} : Fn Try.prog 16 [.agg (actC x)] L (fun v L' => v = .int .i64 (fileN x - 1) ∧ L' = L) := by
  obtain ⟨f0, f1⟩ := fileN_r hx
  have wf : IntKind.i64.wrap (x.file.tmod 5) = fileN x := wI64 (by unfold fileN at f0; omega) (by unfold fileN at f1; omega)
  have w1 : IntKind.i64.wrap (fileN x - 1) = fileN x - 1 := wI64 (by omega) (by omega)
  refine Fn_enter Try.func16 rfl Try.ntmps16 rfl fun gw => ?_
  repeat (first | ((first | refine WL_Q ?_); (first | refine QW_a ?_)) | ((first | refine WL_op rfl ?_); (first | refine OW_box rfl (hk := fun _ => ?_))) | refine WL_nil ?_ | refine WC_seq ?_ | refine WC_ret ?_ | refine WC_region ?_)
  exact ⟨rfl, _, _, Res1 rfl (resV_tmp rfl), .cons _ (.refl _), by rw [wf, w1], rfl⟩
end Go.Proofs.Ytmdiabglbmgkkaa
namespace Go.Proofs.Ytmdiabglbmgkkaa
open Go.RowKit
theorem Fn.under {P : Program} {f : FuncId} {args : List Value} {Pf S L : List (Nat × Obj)} {Q : Value → Prop} {Z : List (Nat × Obj) → Prop} (h : Fn P f args (S ++ (Pf ++ L)) (fun r L' => Q r ∧ ∃ S', L' = S' ++ (Pf ++ L) ∧ Z S')) : Fn P f args (Pf ++ (S ++ L)) (fun r L' => Q r ∧ ∃ S', L' = Pf ++ (S' ++ L) ∧ Z S') :=
  h.perm (List.perm_append_comm_assoc ..) fun v L' ⟨h1, S', h2, h3⟩ => ⟨_, by rw [h2]; exact List.perm_append_comm_assoc .., h1, S', rfl, h3⟩
attribute [local irreducible] Fn WC WL WR OW Qt YieldFn QW
end Go.Proofs.Ytmdiabglbmgkkaa
namespace Go.Proofs.Ytmdiabglbmgkkaa
open Go.RowKit
structure FdR where
  n : Int
  l : List UInt8
  mark : Nat
structure FdR.Ok (x : FdR) : Prop where
  n0 : 0 ≤ x.n
  n1 : x.n < 7
  size : x.l.length ≤ 1048576
  mark : x.mark ≤ x.l.length
  ne : x.l ≠ []
abbrev fdC (x : FdR) : Array Value := #[.int .i64 x.n, .string (bstr x.l), .int .i64 (x.mark : Nat)]
def flatD (M : List FdR) : List Value := M.flatMap fun x => (fdC x).toList
theorem flatD_snoc (M : List FdR) (x : FdR) : flatD (M ++ [x]) = flatD M ++ (fdC x).toList := by simp [flatD]
abbrev BufD (v : Value) (T : List (Nat × Obj)) (M : List FdR) : Prop := Buf 79 3 v T M.length (flatD M)
def FilesAt (L : List (Nat × Obj)) (v : Value) (M : List FdR) : Prop := ∃ a cap, v = .slice a M.length cap ∧ (M = [] ∨ ∃ (g off : Nat) (cur : Array Value) (E : TypeId) (fr : Nat × Nat) (i : Nat), a = some ⟨g, off, none⟩ ∧ L[i]? = some (g, .cells cur E fr) ∧ ∀ (j : Nat) (x : FdR), M[j]? = some x → cur.extract (off + j * 3) (off + j * 3 + 3) = fdC x ∧ off + j * 3 + 3 ≤ cur.size)
theorem flatD_at : ∀ {M : List FdR} {j : Nat} {x : FdR}, M[j]? = some x → (flatD M)[j * 3]? = some (.int .i64 x.n) ∧ (flatD M)[j * 3 + 1]? = some (.string (bstr x.l)) ∧ (flatD M)[j * 3 + 2]? = some (.int .i64 (x.mark : Nat))
  | [], j, x, h => by simp at h
  | q :: M, 0, x, h => by cases h; exact ⟨rfl, rfl, rfl⟩
  | q :: M, j + 1, x, h => by
    have ih := flatD_at (M := M) (j := j) (x := x) h
    rw [Nat.succ_mul]
    exact ih
theorem BufD.files {v : Value} {T L : List (Nat × Obj)} {M : List FdR} (h : BufD v T M) (hs : ∀ q ∈ T, q ∈ L) : FilesAt L v M := by
  rcases h with ⟨_, h2, rfl, rfl⟩ | ⟨g, off, cap, cur, rfl, rfl, ho⟩
  · exact ⟨none, 0, by rw [h2], .inl (List.eq_nil_of_length_eq_zero h2)⟩
  · obtain ⟨i, hi⟩ := List.mem_iff_getElem?.1 (hs _ (List.mem_singleton.2 rfl))
    refine ⟨_, cap, rfl, .inr ⟨g, off, cur, _, _, i, rfl, hi, fun j x hj => ?_⟩⟩
    obtain ⟨h0, h1, h2⟩ := flatD_at hj
    have c0 := ho.at_ _ _ h0
    have c1 := ho.at_ _ _ h1
    have c2 := ho.at_ _ _ h2
    have hsz : off + j * 3 + 2 < cur.size := by
      have := (Array.getElem?_eq_some_iff.1 c2).1
      omega
    refine ⟨?_, by omega⟩
    apply Array.ext_getElem?
    intro q
    rw [Array.getElem?_extract]
    match q with
    | 0 => rw [if_pos (by omega)]; exact c0
    | 1 => rw [if_pos (by omega), Nat.add_assoc]; exact c1
    | 2 => rw [if_pos (by omega), Nat.add_assoc]; exact c2
    | q + 3 => rw [if_neg (by omega)]; rfl
theorem FilesAt.at_ {L : List (Nat × Obj)} {a : Option Addr} {cap : Nat} {M : List FdR} (h : FilesAt L (.slice a M.length cap) M) {j : Nat} {x : FdR} (hj : M[j]? = some x) : ∃ (g off : Nat) (cur : Array Value) (E : TypeId) (fr : Nat × Nat) (i : Nat), a = some ⟨g, off, none⟩ ∧ L[i]? = some (g, .cells cur E fr) ∧ cur.extract (off + j * 3) (off + j * 3 + 3) = fdC x ∧ off + j * 3 + 3 ≤ cur.size ∧ cur[off + j * 3]? = some (.int .i64 x.n) ∧ cur[off + j * 3 + 1]? = some (.string (bstr x.l)) ∧ cur[off + j * 3 + 2]? = some (.int .i64 (x.mark : Nat)) := by
  obtain ⟨a', cap', e, h4⟩ := h
  simp only [Value.slice.injEq] at e
  obtain ⟨rfl, _, rfl⟩ := e
  rcases h4 with rfl | ⟨g, off, cur, E, fr, i, e1, e2, e3⟩
  · simp at hj
  · obtain ⟨q1, q2⟩ := e3 j x hj
    have get : ∀ k, k < 3 → cur[off + j * 3 + k]? = (fdC x)[k]? := fun k hk => by
      rw [← q1, Array.getElem?_extract, if_pos (by omega)]
    exact ⟨g, off, cur, E, fr, i, e1, e2, q1, q2, get 0 (by decide), get 1 (by decide), get 2 (by decide)⟩
def gD : List FdR → FG
  | [], _ => ([], 0)
  | x :: M, n => if n = x.n then (x.l, x.mark) else gD M n
structure DOk (M : List FdR) : Prop where
  rise : M.Pairwise fun a b => a.n < b.n
  ok : ∀ x ∈ M, x.Ok
theorem DOk.len {M : List FdR} (h : DOk M) : M.length ≤ 7 := by
  have h1 : (M.map FdR.n).Nodup := List.pairwise_map.2 (h.rise.imp fun h => by omega)
  have := nodup_few 7 (M.map FdR.n) h1 (fun x hx => by
    obtain ⟨y, hy, rfl⟩ := List.mem_map.1 hx
    exact ⟨(h.ok y hy).n0, (h.ok y hy).n1⟩)
  simpa using this
abbrev rO (rb : Nat) (v : Value) : Nat × Obj := (rb, .cells #[v] 40 (0, 0))
def FindD (M : List FdR) (n r : Int) : Prop := (r = -1 ∧ ∀ x ∈ M, x.n ≠ n) ∨ ∃ (i : Nat) (x : FdR), M[i]? = some x ∧ x.n = n ∧ r = i
theorem findD_ex (M : List FdR) (n : Int) : ∃ r, FindD M n r := by
  by_cases h : ∃ x ∈ M, x.n = n
  · obtain ⟨x, hx, e⟩ := h
    obtain ⟨i, hi⟩ := List.mem_iff_getElem?.1 hx
    exact ⟨i, .inr ⟨i, x, hi, e, rfl⟩⟩
  · exact ⟨-1, .inl ⟨rfl, fun x hx e => h ⟨x, hx, e⟩⟩⟩
theorem DOk.same {M : List FdR} (h : DOk M) {i j : Nat} {x y : FdR} (hi : M[i]? = some x) (hj : M[j]? = some y) (e : x.n = y.n) : i = j := by
  obtain ⟨hi1, hi2⟩ := List.getElem?_eq_some_iff.1 hi
  obtain ⟨hj1, hj2⟩ := List.getElem?_eq_some_iff.1 hj
  have hp := List.pairwise_iff_getElem.1 h.rise
  rcases Nat.lt_trichotomy i j with hl | hl | hl
  · have := hp i j hi1 hj1 hl
    rw [hi2, hj2] at this; omega
  · exact hl
  · have := hp j i hj1 hi1 hl
    rw [hi2, hj2] at this; omega
attribute [local irreducible] Fn WC WL WR OW Qt YieldFn QW
set_option maxHeartbeats 2000000 in
theorem find_fn {rb ir : Nat} {v : Value} {M : List FdR} {n r : Int} {L : List (Nat × Obj)} (hrb : L[ir]? = some (rO rb v)) (hv : FilesAt L v M) (hM : DOk M) (hr : FindD M n r) : Fn Try.prog 63 [fP rb, .int .i64 n] L (fun u L' => u = .int .i64 r ∧ L' = L) := by
  have hl := hM.len
  obtain ⟨a, cap, rfl, _⟩ := id hv
  refine Fn_enter Try.func63 rfl Try.ntmps63 rfl fun gw => ?_
  repeat (first | ((first | refine WL_Q ?_); (first | refine QW_a ?_ | refine QW_of (Qt_ldX rfl (hn := by with_reducible assumption)) ?_)) | refine WL_nil ?_ | refine WC_seq ?_ | refine WC_block ?_ | refine WC_cond_t (ht := ?_) | refine WC_cond_f (he := ?_) | refine WC_skip ?_ | refine WC_ret ?_ | refine WC_exit ?_ | refine WC_region (id := 0) ?_ | refine WC_region (id := 1) ?_)
  refine WC_wk [(5, .int .i64 ((0 : Nat) : Int)), (1, .int .i64 n), (0, fP rb)] ⟨rfl, rfl, rfl, trivial⟩ ?_
  refine WC_loop (fun m σ => ∃ i : Nat, m = M.length - i ∧ i ≤ M.length ∧ (∀ j x, j < i → M[j]? = some x → x.n ≠ n) ∧ σ = ⟨[(5, .int .i64 i), (1, .int .i64 n), (0, fP rb)], [], L⟩) M.length ⟨0, by omega, by omega, fun j x h => absurd h (by omega), rfl⟩ ?_
  rintro m σ ⟨i, rfl, hi, hbef, rfl⟩
  by_cases hlt : i < M.length
  · have d2 : decide ((i : Int) < ((M.length : Nat) : Int)) = true := decide_eq_true (by omega)
    obtain ⟨x, hx⟩ : ∃ x, M[i]? = some x := ⟨_, List.getElem?_eq_getElem hlt⟩
    obtain ⟨g1, o1, cu1, E1, fr1, i1, rfl, hi1, x1, z1, q0, q1, q2⟩ := hv.at_ hx
    have p0 : (0 : Int) ≤ (i : Int) := by omega
    have p1 : ((i : Nat) : Int) < ((M.length : Nat) : Int) := by omega
    have c0 : cu1[o1 + ((i : Nat) : Int).toNat * 3]? = some (.int .i64 x.n) := by rw [Int.toNat_natCast]; exact q0
    have w : IntKind.i64.wrap ((i : Int) + 1) = ((i + 1 : Nat) : Int) := by rw [wI64 (by omega) (by omega)]; omega
    by_cases he : x.n = n
    · have d3 : (x.n == n) = true := by simpa using he
      repeat (first | ((first | refine WL_Q ?_); (first | refine QW_a ?_ | refine QW_of (Qt_ldX rfl (hn := by with_reducible assumption)) ?_)) | refine WL_nil ?_ | refine WC_seq ?_ | refine WC_block ?_ | refine WC_cond_t (ht := ?_) | refine WC_cond_f (he := ?_) | refine WC_skip ?_ | refine WC_ret ?_ | refine WC_exit ?_ | refine WC_region (id := 2) ?_ | refine WC_region (id := 4) ?_ | refine WC_region (id := 5) ?_)
      have hri : r = i := by
        rcases hr with ⟨_, h⟩ | ⟨j, y, hj, ey, rfl⟩
        · exact absurd he (h x (List.mem_of_getElem? hx))
        · rw [hM.same hj hx (by omega)]
      exact ⟨rfl, _, _, Res1 rfl (resV_tmp rfl), .refl _, by rw [hri], rfl⟩
    · have d3 : (x.n == n) = false := by simpa using he
      repeat (first | ((first | refine WL_Q ?_); (first | refine QW_a ?_ | refine QW_of (Qt_ldX rfl (hn := by with_reducible assumption)) ?_)) | refine WL_nil ?_ | refine WC_seq ?_ | refine WC_block ?_ | refine WC_cond_t (ht := ?_) | refine WC_cond_f (he := ?_) | refine WC_skip ?_ | refine WC_ret ?_ | refine WC_exit ?_ | refine WC_region (id := 2) ?_ | refine WC_region (id := 4) ?_ | refine WC_region (id := 3) ?_)
      rw [w]
      refine ⟨_, _, by omega, ⟨i + 1, rfl, by omega, fun j y hj hy => ?_, rfl⟩, ⟨rfl, rfl, rfl, trivial⟩, rfl, .refl _⟩
      rcases Nat.lt_succ_iff_lt_or_eq.1 hj with h | rfl
      · exact hbef j y h hy
      · rw [hx] at hy; cases hy; exact he
  · obtain rfl : i = M.length := by omega
    have d2 : decide (((M.length : Nat) : Int) < ((M.length : Nat) : Int)) = false := decide_eq_false (by omega)
    repeat (first | ((first | refine WL_Q ?_); (first | refine QW_a ?_ | refine QW_of (Qt_ldX rfl (hn := by with_reducible assumption)) ?_)) | refine WL_nil ?_ | refine WC_seq ?_ | refine WC_block ?_ | refine WC_cond_t (ht := ?_) | refine WC_cond_f (he := ?_) | refine WC_skip ?_ | refine WC_ret ?_ | refine WC_exit ?_ | refine WC_region (id := 2) ?_ | refine WC_region (id := 6) ?_)
    have hri : r = -1 := by
      rcases hr with ⟨h, _⟩ | ⟨j, y, hj, ey, rfl⟩
      · exact h
      · exact absurd ey (hbef j y (List.getElem?_eq_some_iff.1 hj).1 hj)
    exact ⟨rfl, _, _, Res1 rfl (resV_tmp rfl), .refl _, by rw [hri], rfl⟩
end Go.Proofs.Ytmdiabglbmgkkaa
namespace Go.Proofs.Ytmdiabglbmgkkaa
open Go.RowKit
theorem gD_none : ∀ {M : List FdR} {n : Int}, (∀ x ∈ M, x.n ≠ n) → gD M n = ([], 0)
  | [], _, _ => rfl
  | x :: M, n, h => by
    unfold gD
    rw [if_neg (fun e => h x (List.mem_cons_self ..) e.symm)]
    exact gD_none fun y hy => h y (List.mem_cons_of_mem _ hy)
theorem gD_some {M : List FdR} (h : DOk M) {x : FdR} (hx : x ∈ M) : gD M x.n = (x.l, x.mark) := by
  obtain ⟨h1, h2⟩ := h
  induction M with
  | nil => simp at hx
  | cons y M ih =>
    obtain ⟨p1, p2⟩ := List.pairwise_cons.1 h1
    unfold gD
    rcases List.mem_cons.1 hx with rfl | hx
    · rw [if_pos rfl]
    · rw [if_neg (by have := p1 x hx; omega)]
      exact ih hx p2 fun z hz => h2 z (List.mem_cons_of_mem _ hz)
theorem gD_app : ∀ (A B : List FdR) (n : Int), (∀ x ∈ A, x.n ≠ n) → gD (A ++ B) n = gD B n
  | [], _, _, _ => rfl
  | x :: A, B, n, h => by
    show (if n = x.n then (x.l, x.mark) else gD (A ++ B) n) = _
    rw [if_neg (fun e => h x (List.mem_cons_self ..) e.symm)]
    exact gD_app A B n fun y hy => h y (List.mem_cons_of_mem _ hy)
theorem FilesAt.app {L : List (Nat × Obj)} {v : Value} {M : List FdR} (h : FilesAt L v M) (A : List (Nat × Obj)) : FilesAt (A ++ L) v M := by
  obtain ⟨a, cap, h1, h4⟩ := h
  refine ⟨a, cap, h1, h4.imp id ?_⟩
  rintro ⟨g, off, cur, E, fr, i, e1, e2, e3⟩
  exact ⟨g, off, cur, E, fr, A.length + i, e1, by rw [List.getElem?_append_right (by omega), show A.length + i - A.length = i by omega]; exact e2, e3⟩
theorem Fn.ofEq {P : Program} {f : FuncId} {args : List Value} {L L1 : List (Nat × Obj)} {R : Value → List (Nat × Obj) → Prop} (e : L1 = L) (h : Fn P f args L1 R) : Fn P f args L R := e ▸ h
def ofD (M : List FdR) (n : Int) : FdR := ⟨n, (gD M n).1, (gD M n).2⟩
theorem ofD_none {M : List FdR} {n : Int} (h : ∀ x ∈ M, x.n ≠ n) : ofD M n = ⟨n, [], 0⟩ := by unfold ofD; rw [gD_none h]
theorem ofD_some {M : List FdR} (h : DOk M) {x : FdR} (hx : x ∈ M) : ofD M x.n = x := by unfold ofD; rw [gD_some h hx]
def setD (M : List FdR) (f : FdR) : List FdR := M.filter (fun x => decide (x.n < f.n)) ++ (if f.l = [] then [] else [f]) ++ M.filter (fun x => decide (x.n > f.n))
theorem setD_g {M : List FdR} (h : DOk M) {f : FdR} (hf : f.l = [] → f.mark = 0) : gD (setD M f) = upG (gD M) f.n (f.l, f.mark) := by
  funext n
  unfold setD upG
  have lo : ∀ m, f.n ≤ m → ∀ x ∈ M.filter (fun x => decide (x.n < f.n)), x.n ≠ m := fun m hm x hx => by
    have := (List.mem_filter.1 hx).2
    simp at this; omega
  have hi : ∀ m, m ≤ f.n → ∀ x ∈ M.filter (fun x => decide (x.n > f.n)), x.n ≠ m := fun m hm x hx => by
    have := (List.mem_filter.1 hx).2
    simp at this; omega
  rw [List.append_assoc]
  by_cases hn : n = f.n
  · subst hn
    rw [if_pos rfl, gD_app _ _ _ (lo _ (Int.le_refl _))]
    by_cases he : f.l = []
    · rw [if_pos he, List.nil_append, gD_none (hi _ (Int.le_refl _)), he, hf he]
    · rw [if_neg he]
      simp [gD]
  · rw [if_neg hn]
    have mid : ∀ X, gD ((if f.l = [] then [] else [f]) ++ X) n = gD X n := fun X => gD_app _ _ _ fun x hx => by
      split at hx
      · simp at hx
      · obtain rfl : x = f := by simpa using hx
        exact fun e => hn e.symm
    by_cases hex : ∃ x ∈ M, x.n = n
    · obtain ⟨x, hx, rfl⟩ := hex
      rw [gD_some h hx]
      have sub : ∀ p : FdR → Bool, DOk (M.filter p) := fun p => ⟨h.rise.filter _, fun y hy => h.ok y (List.mem_filter.1 hy).1⟩
      by_cases hlt : x.n < f.n
      · have hxm : x ∈ M.filter (fun x => decide (x.n < f.n)) := List.mem_filter.2 ⟨hx, by simpa using hlt⟩
        have := gD_some (sub _) hxm
        have key : ∀ (A B : List FdR), DOk A → x ∈ A → gD (A ++ B) x.n = (x.l, x.mark) := fun A B hA hxA => by
          obtain ⟨C, D, rfl⟩ := List.append_of_mem hxA
          rw [List.append_assoc, gD_app]
          · simp [gD]
          · intro y hy e
            have := (List.pairwise_append.1 hA.rise).2.2 y hy x (List.mem_cons_self ..)
            omega
        exact key _ _ (sub _) hxm
      · rw [gD_app _ _ _ (lo _ (by omega)), mid]
        exact gD_some (sub _) (List.mem_filter.2 ⟨hx, by simp; omega⟩)
    · have hno : ∀ x ∈ M, x.n ≠ n := fun x hx e => hex ⟨x, hx, e⟩
      rw [gD_none hno, gD_app _ _ _ (fun x hx => hno x (List.mem_filter.1 hx).1), mid]
      exact gD_none fun x hx => hno x (List.mem_filter.1 hx).1
theorem setD_ok {M : List FdR} (h : DOk M) {f : FdR} (hf : f.l ≠ [] → f.Ok) : DOk (setD M f) := by
  unfold setD
  refine ⟨?_, fun x hx => ?_⟩
  · refine List.pairwise_append.2 ⟨List.pairwise_append.2 ⟨h.rise.filter _, ?_, fun x hx y hy => ?_⟩, h.rise.filter _, fun x hx y hy => ?_⟩
    · split <;> simp
    · have h1 := (List.mem_filter.1 hx).2
      split at hy
      · simp at hy
      · obtain rfl : y = f := by simpa using hy
        simpa using h1
    · have h2 := (List.mem_filter.1 hy).2
      simp at h2
      rcases List.mem_append.1 hx with hx | hx
      · have h1 := (List.mem_filter.1 hx).2
        simp at h1; omega
      · split at hx
        · simp at hx
        · obtain rfl : x = f := by simpa using hx
          omega
  · rcases List.mem_append.1 hx with hx | hx
    · rcases List.mem_append.1 hx with hx | hx
      · exact h.ok x (List.mem_filter.1 hx).1
      · split at hx
        · simp at hx
        · rename_i hne
          obtain rfl : x = f := by simpa using hx
          exact hf hne
    · exact h.ok x (List.mem_filter.1 hx).1
attribute [local irreducible] Fn WC WL WR OW Qt YieldFn QW
set_option maxHeartbeats 2000000 in
theorem of_fn {rb ir : Nat} {v : Value} {M : List FdR} {n : Int} {L : List (Nat × Obj)} (hrb : L[ir]? = some (rO rb v)) (hv : FilesAt L v M) (hM : DOk M) : Fn Try.prog 61 [fP rb, .int .i64 n] L (fun u L' => u = .agg (fdC (ofD M n)) ∧ L' = L) := by
  have hl := hM.len
  obtain ⟨r, hr⟩ := findD_ex M n
  obtain ⟨a, cap, rfl, _⟩ := id hv
  have hcall : ∀ z : Nat × Obj, Fn Try.prog 63 [fP rb, .int .i64 n] (z :: L) (fun u L' => u = .int .i64 r ∧ L' = z :: L) := fun z => find_fn (ir := ir + 1) hrb (hv.app [z]) hM hr
  refine Fn_enter Try.func61 rfl Try.ntmps61 rfl fun gw => ?_
  repeat (first | ((first | refine WL_Q ?_); (first | refine QW_a ?_ | refine QW_of (Qt_ldX rfl (hn := by with_reducible assumption)) ?_)) | ((first | refine WL_op rfl ?_); (first | refine OW_alloc rfl (hk := fun _ => ?_) | refine OW_callP rfl (hF := hcall _) (hk := ?_))) | refine WL_nil ?_ | refine WC_seq ?_ | refine WC_cond_t (ht := ?_) | refine WC_cond_f (he := ?_) | refine WC_skip ?_ | refine WC_ret ?_ | refine WC_region (id := 0) ?_ | refine WC_region (id := 1) ?_)
  rename_i xb
  rcases hr with ⟨rfl, hno⟩ | ⟨i, x, hx, rfl, rfl⟩
  · have d3 : decide ((-1 : Int) < 0) = true := rfl
    repeat (first | ((first | refine WL_Q ?_); (first | refine QW_a ?_ | refine QW_of (Qt_ldX rfl (hn := by with_reducible assumption)) ?_)) | ((first | refine WL_op rfl ?_); (first | refine OW_stA rfl ?_ | refine OW_stN rfl ?_ | refine OW_callP rfl (hF := hcall _) (hk := ?_))) | refine WL_nil ?_ | refine WC_seq ?_ | refine WC_cond_t (ht := ?_) | refine WC_cond_f (he := ?_) | refine WC_skip ?_ | refine WC_ret ?_ | refine WC_region (id := 1) ?_ | refine WC_region (id := 2) ?_ | refine WC_region (id := 3) ?_)
    exact ⟨rfl, _, _, Res1 rfl (resV_cellN rfl 0 rfl rfl), .cons _ (.refl _), by rw [ofD_none hno]; rfl, rfl⟩
  · have hlt := (List.getElem?_eq_some_iff.1 hx).1
    have d3 : decide (((i : Nat) : Int) < 0) = false := decide_eq_false (by omega)
    obtain ⟨g1, o1, cu1, E1, fr1, i1, rfl, hi1, x1, z1, q0, q1, q2⟩ := hv.at_ hx
    have p0 : (0 : Int) ≤ (i : Int) := by omega
    have p1 : ((i : Nat) : Int) < ((M.length : Nat) : Int) := by omega
    have y1 : o1 + ((i : Nat) : Int).toNat * 3 + 3 ≤ cu1.size := by rw [Int.toNat_natCast]; exact z1
    have v1 : cu1.extract (o1 + ((i : Nat) : Int).toNat * 3) (o1 + ((i : Nat) : Int).toNat * 3 + 3) = fdC x := by rw [Int.toNat_natCast]; exact x1
    have hrb' : ((xb, Obj.cells zc79 79 (0, 0)) :: L)[ir + 1]? = some (rO rb (.slice (some ⟨g1, o1, none⟩) M.length cap)) := hrb
    have hi1' : ((xb, Obj.cells zc79 79 (0, 0)) :: L)[i1 + 1]? = some (g1, .cells cu1 E1 fr1) := hi1
    repeat (first | ((first | refine WL_Q ?_); (first | refine QW_a ?_ | refine QW_of (Qt_ldX rfl (hn := by with_reducible assumption)) ?_)) | ((first | refine WL_op rfl ?_); (first | refine OW_stA rfl ?_ | refine OW_stN rfl ?_ | refine OW_callP rfl (hF := hcall _) (hk := ?_))) | refine WL_nil ?_ | refine WC_seq ?_ | refine WC_cond_t (ht := ?_) | refine WC_cond_f (he := ?_) | refine WC_skip ?_ | refine WC_ret ?_ | refine WC_region (id := 1) ?_ | refine WC_region (id := 2) ?_ | refine WC_region (id := 4) ?_)
    rw [v1]
    repeat (first | ((first | refine WL_Q ?_); (first | refine QW_a ?_ | refine QW_of (Qt_ldX rfl (hn := by with_reducible assumption)) ?_)) | ((first | refine WL_op rfl ?_); (first | refine OW_stA rfl ?_ | refine OW_stN rfl ?_)) | refine WL_nil ?_ | refine WC_seq ?_ | refine WC_cond_t (ht := ?_) | refine WC_cond_f (he := ?_) | refine WC_skip ?_ | refine WC_ret ?_ | refine WC_region (id := 4) ?_)
    exact ⟨rfl, _, _, Res1 rfl (resV_cellN rfl 0 rfl rfl), .cons _ (.refl _), by rw [ofD_some hM (List.mem_of_getElem? hx)], rfl⟩
theorem srcD {c : Cx} {L : List (Nat × Obj)} {b i : Nat} {x : FdR} {E : TypeId} {fr : Nat × Nat} (hi : L[i]? = some (b, .cells (fdC x) E fr)) [TUnd c.P 38 (.slice 79)] : SrcL c L 3 38 (.slice (some ⟨b, 0, none⟩) 1 1) 1 (fdC x).toList :=
  srcVec ⟨rfl, _, _, rfl, Nat.le_refl _, by decide, .inr ⟨_, _, _, _, _, i, rfl, hi, fun j x hx => by simpa using hx⟩⟩ (by intro v hv; simp at hv; rcases hv with rfl | rfl | rfl <;> rfl)
theorem at_lift {xo : Nat × Obj} {T L : List (Nat × Obj)} {i : Nat} {p : Nat × Obj} (h : L[i]? = some p) : (xo :: (T ++ L))[T.length + i + 1]? = some p := by
  show (T ++ L)[T.length + i]? = _
  rw [List.getElem?_append_right (by omega), show T.length + i - T.length = i by omega]
  exact h
abbrev fdO (xb : Nat) (f : FdR) : Nat × Obj := (xb, .cells (fdC f) 79 (0, 0))
set_option maxHeartbeats 4000000 in
theorem set_fn {rb : Nat} {v : Value} {T : List (Nat × Obj)} {M : List FdR} {f : FdR} {F : List (Nat × Obj)} (hb : BufD v T M) (hM : DOk M) : Fn Try.prog 62 [fP rb, .agg (fdC f)] (rO rb v :: (T ++ F)) (fun u L' => u = .tuple #[] ∧ ∃ v' T', L' = rO rb v' :: (T' ++ (T ++ F)) ∧ BufD v' T' (setD M f)) := by
  have hl := hM.len
  have hv : FilesAt (rO rb v :: (T ++ F)) v M := hb.files fun q hq => by simp [hq]
  have hrb : (rO rb v :: (T ++ F))[0]? = some (rO rb v) := rfl
  obtain ⟨a, cap, rfl, _⟩ := id hv
  obtain ⟨L, hL⟩ : ∃ L, L = rO rb (.slice a M.length cap) :: (T ++ F) := ⟨_, rfl⟩
  rw [← hL] at hv hrb
  refine Fn.ofEq hL ?_
  refine Fn_enter Try.func62 rfl Try.ntmps62 rfl fun gw => ?_
  repeat (first | ((first | refine WL_Q ?_); (first | refine QW_a ?_ | refine QW_of (Qt_ldX rfl (hn := by with_reducible assumption)) ?_)) | ((first | refine WL_op rfl ?_); (first | refine OW_box rfl (hk := fun _ => ?_))) | refine WL_nil ?_ | refine WC_seq ?_ | refine WC_block ?_ | refine WC_cond_t (ht := ?_) | refine WC_cond_f (he := ?_) | refine WC_skip ?_ | refine WC_exit ?_ | refine WC_region (id := 0) ?_ | refine WC_region (id := 1) ?_ | refine WC_region (id := 2) ?_)
  rename_i xb
  refine WC_wk [(5, .int .i64 ((0 : Nat) : Int)), (4, .slice none 0 0), (3, .pointer (some ⟨xb, 0, none⟩)), (0, fP rb)] ⟨rfl, rfl, rfl, rfl, trivial⟩ ?_
  refine WC_loop (fun m σ => ∃ (i : Nat) (v1 : Value) (T1 : List (Nat × Obj)), m = M.length - i ∧ i ≤ M.length ∧ BufD v1 T1 ((M.take i).filter fun x => decide (x.n < f.n)) ∧ σ = ⟨[(5, .int .i64 i), (4, v1), (3, .pointer (some ⟨xb, 0, none⟩)), (0, fP rb)], [], fdO xb f :: (T1 ++ L)⟩) M.length ⟨0, _, [], by omega, by omega, Buf.nil _ _, rfl⟩ ?_
  rintro m σ ⟨i, v1, T1, rfl, hi, hb1, rfl⟩
  have hrb1 : (fdO xb f :: (T1 ++ L))[T1.length + 0 + 1]? = some (rO rb (.slice a M.length cap)) := at_lift hrb
  by_cases hlt : i < M.length
  · have d2 : decide ((i : Int) < ((M.length : Nat) : Int)) = true := decide_eq_true (by omega)
    obtain ⟨x, hx⟩ : ∃ x, M[i]? = some x := ⟨_, List.getElem?_eq_getElem hlt⟩
    obtain ⟨g1, o1, cu1, E1, fr1, i1, rfl, hi1, x1, z1, q0, q1, q2⟩ := hv.at_ hx
    have p0 : (0 : Int) ≤ (i : Int) := by omega
    have p1 : ((i : Nat) : Int) < ((M.length : Nat) : Int) := by omega
    have y1 : o1 + ((i : Nat) : Int).toNat * 3 + 3 ≤ cu1.size := by rw [Int.toNat_natCast]; exact z1
    have v1' : cu1.extract (o1 + ((i : Nat) : Int).toNat * 3) (o1 + ((i : Nat) : Int).toNat * 3 + 3) = fdC x := by rw [Int.toNat_natCast]; exact x1
    have c0 : cu1[o1 + ((i : Nat) : Int).toNat * 3]? = some (.int .i64 x.n) := by rw [Int.toNat_natCast]; exact q0
    have hi1' : (fdO xb f :: (T1 ++ L))[T1.length + i1 + 1]? = some (g1, .cells cu1 E1 fr1) := at_lift hi1
    have w : IntKind.i64.wrap ((i : Int) + 1) = ((i + 1 : Nat) : Int) := by rw [wI64 (by omega) (by omega)]; omega
    have htk : M.take (i + 1) = M.take i ++ [x] := by rw [List.take_add_one, hx]; rfl
    have hfl := List.length_filter_le (fun x : FdR => decide (x.n < f.n)) (M.take i)
    rw [List.length_take] at hfl
    repeat (first | ((first | refine WL_Q ?_); (first | refine QW_a ?_ | refine QW_of (Qt_ldX rfl (hn := by with_reducible assumption)) ?_)) | refine WL_nil ?_ | refine WC_seq ?_ | refine WC_block ?_ | refine WC_cond_t (ht := ?_) | refine WC_cond_f (he := ?_) | refine WC_skip ?_ | refine WC_exit ?_ | refine WC_region (id := 3) ?_)
    refine WC_draw_sub (id := 5) 11 (.calm 0 <| .calm 1 <| .calm 2 <| .calm 3 <| .calm 4 <| .calm 5 <| .calm 6 <| .calm 7 <| .calm 8 <| .calm 9 <| .calm 10 <| .done) mixed (by kernel_rfl) (.refl _) ?_
    by_cases hc : x.n < f.n
    · have d3 : decide (x.n < f.n) = true := decide_eq_true hc
      repeat (first | ((first | refine WL_Q ?_ | refine WR_Q rfl ?_ | refine WR_late rfl rfl rfl (OW_Q ?_)); (first | refine QW_a ?_ | refine QW_of (Qt_ldX rfl (hn := by with_reducible assumption)) ?_)) | ((first | refine WL_op rfl ?_ | refine WR_late rfl rfl rfl ?_ | refine WR_opG rfl rfl ?_); (first | refine OW_build1 rfl (hk := fun _ => ?_)); try refine ⟨(by first | exact fun _ h => h | exact sub_mem (by repeat (first | exact .refl _ | exact List.nil_sublist _ | exact List.sublist_append_right _ _ | exact List.Sublist.append (.refl _) (List.sublist_append_right _ _) | apply List.Sublist.cons_cons | apply List.Sublist.cons))), ?_⟩) | refine WL_nil ?_ | refine WR_nil ?_ | refine WC_seq ?_ | refine WC_block ?_ | refine WC_cond_t (ht := ?_) | refine WC_cond_f (he := ?_) | refine WC_skip ?_ | refine WC_exit ?_ | refine WC_draw_all (id := 5) 11 (.calm 0 <| .calm 1 <| .calm 2 <| .calm 3 <| .calm 4 <| .calm 5 <| .calm 6 <| .calm 7 <| .calm 8 <| .calm 9 <| .calm 10 <| .done) mixed (by kernel_rfl) ?_ | refine WC_region (id := 6) ?_)
      rw [v1']
      repeat (first | ((first | refine WL_Q ?_); (first | refine QW_a ?_ | refine QW_of (Qt_ldX rfl (hn := by with_reducible assumption)) ?_)) | ((first | refine WL_op rfl ?_); (first | refine OW_build1 rfl (hk := fun _ => ?_))) | refine WL_nil ?_ | refine WC_seq ?_ | refine WC_block ?_ | refine WC_cond_t (ht := ?_) | refine WC_cond_f (he := ?_) | refine WC_skip ?_ | refine WC_exit ?_ | refine WC_region (id := 6) ?_)
      refine WL_op rfl (OW_append_buf (A := [_, fdO xb f]) (T := T1) (B := L) rfl rfl rfl rfl rfl hb1 (srcD (i := 0) rfl) (by decide) (by simp only [maxLen]; omega) (by omega) fun v2 T2 hb2 => ?_)
      simp only [List.cons_append, List.nil_append]
      repeat (first | ((first | refine WL_Q ?_); (first | refine QW_a ?_ | refine QW_of (Qt_ldX rfl (hn := by with_reducible assumption)) ?_)) | ((first | refine WL_op rfl ?_); (first | refine OW_build1 rfl (hk := fun _ => ?_))) | refine WL_nil ?_ | refine WC_seq ?_ | refine WC_block ?_ | refine WC_cond_t (ht := ?_) | refine WC_cond_f (he := ?_) | refine WC_skip ?_ | refine WC_exit ?_ | refine WC_region (id := 6) ?_ | refine WC_region (id := 4) ?_)
      rw [w]
      refine ⟨_, _, by omega, ⟨i + 1, v2, T2, rfl, by omega, ?_, rfl⟩, ⟨rfl, rfl, rfl, rfl, trivial⟩, rfl, .cons _ (.refl _)⟩
      rw [htk, List.filter_append, List.filter_cons_of_pos (by simpa using hc), List.filter_nil]
      unfold BufD
      rw [flatD_snoc, List.length_append]
      exact hb2
    · have d3 : decide (x.n < f.n) = false := decide_eq_false hc
      repeat (first | ((first | refine WL_Q ?_ | refine WR_Q rfl ?_ | refine WR_late rfl rfl rfl (OW_Q ?_)); (first | refine QW_a ?_ | refine QW_of (Qt_ldX rfl (hn := by with_reducible assumption)) ?_)) | refine WL_nil ?_ | refine WR_nil ?_ | refine WC_seq ?_ | refine WC_block ?_ | refine WC_cond_t (ht := ?_) | refine WC_cond_f (he := ?_) | refine WC_skip ?_ | refine WC_exit ?_ | refine WC_draw_all (id := 5) 11 (.calm 0 <| .calm 1 <| .calm 2 <| .calm 3 <| .calm 4 <| .calm 5 <| .calm 6 <| .calm 7 <| .calm 8 <| .calm 9 <| .calm 10 <| .done) mixed (by kernel_rfl) ?_ | refine WC_region (id := 4) ?_)
      rw [w]
      refine ⟨_, _, by omega, ⟨i + 1, v1, T1, rfl, by omega, ?_, rfl⟩, ⟨rfl, rfl, rfl, rfl, trivial⟩, rfl, .refl _⟩
      rw [htk, List.filter_append, List.filter_cons_of_neg (by simpa using hc), List.filter_nil, List.append_nil]
      exact hb1
  · obtain rfl : i = M.length := by omega
    have d2 : decide (((M.length : Nat) : Int) < ((M.length : Nat) : Int)) = false := decide_eq_false (by omega)
    rw [List.take_length] at hb1
    have hlo := List.length_filter_le (fun x : FdR => decide (x.n < f.n)) M
    generalize hLo : M.filter (fun x => decide (x.n < f.n)) = lo at hb1 hlo
    repeat (first | ((first | refine WL_Q ?_); (first | refine QW_a ?_ | refine QW_of (Qt_ldX rfl (hn := by with_reducible assumption)) ?_)) | refine WL_nil ?_ | refine WC_seq ?_ | refine WC_block ?_ | refine WC_cond_t (ht := ?_) | refine WC_cond_f (he := ?_) | refine WC_skip ?_ | refine WC_exit ?_ | refine WC_region (id := 3) ?_ | refine WC_region (id := 7) ?_)
    refine WC_meet (fun σ => ∃ (v1 : Value) (T1 : List (Nat × Obj)), BufD v1 T1 (lo ++ (if f.l = [] then [] else [f])) ∧ σ = ⟨[(4, v1), (3, .pointer (some ⟨xb, 0, none⟩)), (0, fP rb)], [], fdO xb f :: (T1 ++ L)⟩) ?_ ?_
    · by_cases hne : f.l = []
      · rw [if_pos hne, List.append_nil]
        have d4 : (!(f.l == [])) = false := by simp [hne]
        repeat (first | ((first | refine WL_Q ?_ | refine WR_Q rfl ?_ | refine WR_late rfl rfl rfl (OW_Q ?_)); (first | refine QW_a ?_ | refine QW_of (Qt_ldX rfl (hn := by with_reducible assumption)) ?_)) | ((first | refine WL_op rfl ?_ | refine WR_late rfl rfl rfl ?_ | refine WR_opG rfl rfl ?_); (first | refine OW_build1 rfl (hk := fun _ => ?_) | refine OW_box rfl (hk := fun _ => ?_) | refine OW_st1 rfl ?_); try refine ⟨(by first | exact fun _ h => h | exact sub_mem (by repeat (first | exact .refl _ | exact List.nil_sublist _ | exact List.sublist_append_right _ _ | exact List.Sublist.append (.refl _) (List.sublist_append_right _ _) | apply List.Sublist.cons_cons | apply List.Sublist.cons))), ?_⟩) | refine WL_nil ?_ | refine WR_nil ?_ | refine WC_seq ?_ | refine WC_block ?_ | refine WC_cond_t (ht := ?_) | refine WC_cond_f (he := ?_) | refine WC_skip ?_ | refine WC_exit ?_ | refine WC_draw_all (id := 5) 11 (.calm 0 <| .calm 1 <| .calm 2 <| .calm 3 <| .calm 4 <| .calm 5 <| .calm 6 <| .calm 7 <| .calm 8 <| .calm 9 <| .calm 10 <| .done) mixed (by kernel_rfl) ?_ | refine WC_draw_all (id := 12) 11 (.calm 0 <| .calm 1 <| .calm 2 <| .calm 3 <| .calm 4 <| .calm 5 <| .calm 6 <| .calm 7 <| .calm 8 <| .calm 9 <| .calm 10 <| .done) mixed (by kernel_rfl) ?_ | refine WC_region ?_)
        exact ⟨_, ⟨v1, T1, hb1, rfl⟩, ⟨rfl, rfl, rfl, trivial⟩, rfl, .refl _⟩
      · rw [if_neg hne]
        have d4 : (!(f.l == [])) = true := by simpa using hne
        repeat (first | ((first | refine WL_Q ?_); (first | refine QW_a ?_ | refine QW_of (Qt_ldX rfl (hn := by with_reducible assumption)) ?_)) | ((first | refine WL_op rfl ?_); (first | refine OW_build1 rfl (hk := fun _ => ?_))) | refine WL_nil ?_ | refine WC_seq ?_ | refine WC_block ?_ | refine WC_cond_t (ht := ?_) | refine WC_cond_f (he := ?_) | refine WC_skip ?_ | refine WC_exit ?_ | refine WC_region (id := 8) ?_)
        refine WL_op rfl (OW_append_buf (A := [_, fdO xb f]) (T := T1) (B := L) rfl rfl rfl rfl rfl hb1 (srcD (i := 0) rfl) (by decide) (by simp only [maxLen]; omega) (by omega) fun v2 T2 hb2 => ?_)
        simp only [List.cons_append, List.nil_append]
        repeat (first | ((first | refine WL_Q ?_); (first | refine QW_a ?_ | refine QW_of (Qt_ldX rfl (hn := by with_reducible assumption)) ?_)) | ((first | refine WL_op rfl ?_); (first | refine OW_build1 rfl (hk := fun _ => ?_))) | refine WL_nil ?_ | refine WC_seq ?_ | refine WC_block ?_ | refine WC_cond_t (ht := ?_) | refine WC_cond_f (he := ?_) | refine WC_skip ?_ | refine WC_exit ?_ | refine WC_region (id := 8) ?_)
        refine ⟨_, ⟨v2, T2, ?_, rfl⟩, ⟨rfl, rfl, rfl, trivial⟩, rfl, .cons _ (.refl _)⟩
        unfold BufD
        rw [flatD_snoc, List.length_append]
        exact hb2
    · rintro _ ⟨v2, T2, hb2, rfl⟩
      clear hb1 T1 v1 hrb1
      have hmid : (if f.l = [] then [] else [f]).length ≤ 1 := by split <;> simp
      generalize hAcc : lo ++ (if f.l = [] then [] else [f]) = acc at hb2
      have hacc : acc.length ≤ 8 := by rw [← hAcc, List.length_append]; omega
      repeat (first | ((first | refine WL_Q ?_); (first | refine QW_a ?_ | refine QW_of (Qt_ldX rfl (hn := by with_reducible assumption)) ?_)) | refine WL_nil ?_ | refine WC_seq ?_ | refine WC_block ?_ | refine WC_cond_t (ht := ?_) | refine WC_cond_f (he := ?_) | refine WC_skip ?_ | refine WC_exit ?_ | refine WC_region (id := 9) ?_)
      refine WC_wk [(6, .int .i64 ((0 : Nat) : Int)), (4, v2), (3, .pointer (some ⟨xb, 0, none⟩)), (0, fP rb)] ⟨rfl, rfl, rfl, rfl, trivial⟩ ?_
      refine WC_loop (fun m σ => ∃ (i : Nat) (v1 : Value) (T1 : List (Nat × Obj)), m = M.length - i ∧ i ≤ M.length ∧ BufD v1 T1 (acc ++ (M.take i).filter fun x => decide (x.n > f.n)) ∧ σ = ⟨[(6, .int .i64 i), (4, v1), (3, .pointer (some ⟨xb, 0, none⟩)), (0, fP rb)], [], fdO xb f :: (T1 ++ L)⟩) M.length ⟨0, v2, T2, by omega, by omega, by simpa using hb2, rfl⟩ ?_
      clear hb2 T2 v2
      rintro m σ ⟨i, v1, T1, rfl, hi, hb1, rfl⟩
      have hrb1 : (fdO xb f :: (T1 ++ L))[T1.length + 0 + 1]? = some (rO rb (.slice a M.length cap)) := at_lift hrb
      by_cases hlt : i < M.length
      · have d2 : decide ((i : Int) < ((M.length : Nat) : Int)) = true := decide_eq_true (by omega)
        obtain ⟨x, hx⟩ : ∃ x, M[i]? = some x := ⟨_, List.getElem?_eq_getElem hlt⟩
        obtain ⟨g1, o1, cu1, E1, fr1, i1, rfl, hi1, x1, z1, q0, q1, q2⟩ := hv.at_ hx
        have p0 : (0 : Int) ≤ (i : Int) := by omega
        have p1 : ((i : Nat) : Int) < ((M.length : Nat) : Int) := by omega
        have y1 : o1 + ((i : Nat) : Int).toNat * 3 + 3 ≤ cu1.size := by rw [Int.toNat_natCast]; exact z1
        have v1' : cu1.extract (o1 + ((i : Nat) : Int).toNat * 3) (o1 + ((i : Nat) : Int).toNat * 3 + 3) = fdC x := by rw [Int.toNat_natCast]; exact x1
        have c0 : cu1[o1 + ((i : Nat) : Int).toNat * 3]? = some (.int .i64 x.n) := by rw [Int.toNat_natCast]; exact q0
        have hi1' : (fdO xb f :: (T1 ++ L))[T1.length + i1 + 1]? = some (g1, .cells cu1 E1 fr1) := at_lift hi1
        have w : IntKind.i64.wrap ((i : Int) + 1) = ((i + 1 : Nat) : Int) := by rw [wI64 (by omega) (by omega)]; omega
        have htk : M.take (i + 1) = M.take i ++ [x] := by rw [List.take_add_one, hx]; rfl
        have hfl := List.length_filter_le (fun x : FdR => decide (x.n > f.n)) (M.take i)
        rw [List.length_take] at hfl
        have hal : (acc ++ (M.take i).filter fun x => decide (x.n > f.n)).length ≤ 15 := by rw [List.length_append]; omega
        repeat (first | ((first | refine WL_Q ?_); (first | refine QW_a ?_ | refine QW_of (Qt_ldX rfl (hn := by with_reducible assumption)) ?_)) | refine WL_nil ?_ | refine WC_seq ?_ | refine WC_block ?_ | refine WC_cond_t (ht := ?_) | refine WC_cond_f (he := ?_) | refine WC_skip ?_ | refine WC_exit ?_ | refine WC_region (id := 10) ?_)
        refine WC_draw_sub (id := 12) 11 (.calm 0 <| .calm 1 <| .calm 2 <| .calm 3 <| .calm 4 <| .calm 5 <| .calm 6 <| .calm 7 <| .calm 8 <| .calm 9 <| .calm 10 <| .done) mixed (by kernel_rfl) (.refl _) ?_
        by_cases hc : x.n > f.n
        · have d3 : decide (x.n > f.n) = true := decide_eq_true hc
          repeat (first | ((first | refine WL_Q ?_ | refine WR_Q rfl ?_ | refine WR_late rfl rfl rfl (OW_Q ?_)); (first | refine QW_a ?_ | refine QW_of (Qt_ldX rfl (hn := by with_reducible assumption)) ?_)) | ((first | refine WL_op rfl ?_ | refine WR_late rfl rfl rfl ?_ | refine WR_opG rfl rfl ?_); (first | refine OW_build1 rfl (hk := fun _ => ?_)); try refine ⟨(by first | exact fun _ h => h | exact sub_mem (by repeat (first | exact .refl _ | exact List.nil_sublist _ | exact List.sublist_append_right _ _ | exact List.Sublist.append (.refl _) (List.sublist_append_right _ _) | apply List.Sublist.cons_cons | apply List.Sublist.cons))), ?_⟩) | refine WL_nil ?_ | refine WR_nil ?_ | refine WC_seq ?_ | refine WC_block ?_ | refine WC_cond_t (ht := ?_) | refine WC_cond_f (he := ?_) | refine WC_skip ?_ | refine WC_exit ?_ | refine WC_draw_all (id := 12) 11 (.calm 0 <| .calm 1 <| .calm 2 <| .calm 3 <| .calm 4 <| .calm 5 <| .calm 6 <| .calm 7 <| .calm 8 <| .calm 9 <| .calm 10 <| .done) mixed (by kernel_rfl) ?_ | refine WC_region (id := 13) ?_)
          rw [v1']
          repeat (first | ((first | refine WL_Q ?_); (first | refine QW_a ?_ | refine QW_of (Qt_ldX rfl (hn := by with_reducible assumption)) ?_)) | ((first | refine WL_op rfl ?_); (first | refine OW_build1 rfl (hk := fun _ => ?_))) | refine WL_nil ?_ | refine WC_seq ?_ | refine WC_block ?_ | refine WC_cond_t (ht := ?_) | refine WC_cond_f (he := ?_) | refine WC_skip ?_ | refine WC_exit ?_ | refine WC_region (id := 13) ?_)
          refine WL_op rfl (OW_append_buf (A := [_, fdO xb f]) (T := T1) (B := L) rfl rfl rfl rfl rfl hb1 (srcD (i := 0) rfl) (by decide) (by simp only [maxLen]; omega) (by omega) fun v2 T2 hb2 => ?_)
          simp only [List.cons_append, List.nil_append]
          repeat (first | ((first | refine WL_Q ?_); (first | refine QW_a ?_ | refine QW_of (Qt_ldX rfl (hn := by with_reducible assumption)) ?_)) | ((first | refine WL_op rfl ?_); (first | refine OW_build1 rfl (hk := fun _ => ?_))) | refine WL_nil ?_ | refine WC_seq ?_ | refine WC_block ?_ | refine WC_cond_t (ht := ?_) | refine WC_cond_f (he := ?_) | refine WC_skip ?_ | refine WC_exit ?_ | refine WC_region (id := 13) ?_ | refine WC_region (id := 11) ?_)
          rw [w]
          refine ⟨_, _, by omega, ⟨i + 1, v2, T2, rfl, by omega, ?_, rfl⟩, ⟨rfl, rfl, rfl, rfl, trivial⟩, rfl, .cons _ (.refl _)⟩
          rw [htk, List.filter_append, List.filter_cons_of_pos (by simpa using hc), List.filter_nil, ← List.append_assoc]
          unfold BufD
          rw [flatD_snoc, List.length_append]
          exact hb2
        · have d3 : decide (x.n > f.n) = false := decide_eq_false hc
          repeat (first | ((first | refine WL_Q ?_ | refine WR_Q rfl ?_ | refine WR_late rfl rfl rfl (OW_Q ?_)); (first | refine QW_a ?_ | refine QW_of (Qt_ldX rfl (hn := by with_reducible assumption)) ?_)) | refine WL_nil ?_ | refine WR_nil ?_ | refine WC_seq ?_ | refine WC_block ?_ | refine WC_cond_t (ht := ?_) | refine WC_cond_f (he := ?_) | refine WC_skip ?_ | refine WC_exit ?_ | refine WC_draw_all (id := 12) 11 (.calm 0 <| .calm 1 <| .calm 2 <| .calm 3 <| .calm 4 <| .calm 5 <| .calm 6 <| .calm 7 <| .calm 8 <| .calm 9 <| .calm 10 <| .done) mixed (by kernel_rfl) ?_ | refine WC_region (id := 11) ?_)
          rw [w]
          refine ⟨_, _, by omega, ⟨i + 1, v1, T1, rfl, by omega, ?_, rfl⟩, ⟨rfl, rfl, rfl, rfl, trivial⟩, rfl, .refl _⟩
          rw [htk, List.filter_append, List.filter_cons_of_neg (by simpa using hc), List.filter_nil, List.append_nil]
          exact hb1
      · obtain rfl : i = M.length := by omega
        have d2 : decide (((M.length : Nat) : Int) < ((M.length : Nat) : Int)) = false := decide_eq_false (by omega)
        rw [List.take_length] at hb1
        obtain ⟨a1, cap1, rfl, _⟩ := hb1.val
        repeat (first | ((first | refine WL_Q ?_); (first | refine QW_a ?_ | refine QW_of (Qt_ldX rfl (hn := by with_reducible assumption)) ?_)) | refine WL_nil ?_ | refine WC_seq ?_ | refine WC_block ?_ | refine WC_cond_t (ht := ?_) | refine WC_cond_f (he := ?_) | refine WC_skip ?_ | refine WC_exit ?_ | refine WC_region (id := 10) ?_)
        rw [hL]
        refine WC_permA (L' := rO rb (.slice a M.length cap) :: fdO xb f :: (T1 ++ (T ++ F))) ?_ ?_
        · exact (List.perm_middle.cons _).trans (.swap ..) |>.symm
        repeat (first | ((first | refine WL_Q ?_); (first | refine QW_a ?_ | refine QW_of (Qt_ldX rfl (hn := by with_reducible assumption)) ?_)) | ((first | refine WL_op rfl ?_); (first | refine OW_st1 rfl ?_)) | refine WL_nil ?_ | refine WC_seq ?_ | refine WC_block ?_ | refine WC_cond_t (ht := ?_) | refine WC_cond_f (he := ?_) | refine WC_skip ?_ | refine WC_exit ?_ | refine WC_region (id := 14) ?_)
        refine ⟨rfl, _, rO rb _ :: (T1 ++ (T ++ F)), Res0 rfl, .cons_cons _ (.cons _ (.refl _)), rfl, _, T1, rfl, ?_⟩
        unfold setD
        rw [hLo, hAcc]
        exact hb1
end Go.Proofs.Ytmdiabglbmgkkaa
namespace Go.Proofs.Ytmdiabglbmgkkaa
open Go.RowKit
def RefAt (rb : Nat) (R : List (Nat × Obj)) (g : FG) : Prop := ∃ v T M, R = rO rb v :: T ∧ BufD v T M ∧ DOk M ∧ gD M = g
theorem gD_lim {M : List FdR} (h : DOk M) (n : Int) : (gD M n).1.length ≤ 1048576 ∧ (gD M n).2 ≤ (gD M n).1.length ∧ ((gD M n).1 ≠ [] → 0 ≤ n ∧ n < 7) ∧ ((gD M n).1 = [] → gD M n = ([], 0)) := by
  by_cases hex : ∃ x ∈ M, x.n = n
  · obtain ⟨x, hx, rfl⟩ := hex
    rw [gD_some h hx]
    have := h.ok x hx
    exact ⟨this.size, this.mark, fun _ => ⟨this.n0, this.n1⟩, fun e => absurd e this.ne⟩
  · rw [gD_none fun x hx e => hex ⟨x, hx, e⟩]
    simp
theorem set_rfK {rb : Nat} {v : Value} {T F : List (Nat × Obj)} {M : List FdR} (hb : BufD v T M) (hM : DOk M) (f : FdR) (h1 : f.l ≠ [] → f.Ok) (h2 : f.l = [] → f.mark = 0) (z : Nat × Obj) :
    Fn Try.prog 62 [fP rb, .agg (fdC f)] (z :: (rO rb v :: T ++ F)) (fun u L' => u = .tuple #[] ∧ ∃ R', L' = z :: (R' ++ (T ++ F)) ∧ RefAt rb R' (upG (gD M) f.n (f.l, f.mark))) := by
  have h : Fn Try.prog 62 [fP rb, .agg (fdC f)] ((rO rb v :: T) ++ ([z] ++ F)) (fun u L' => u = .tuple #[] ∧ ∃ R', L' = R' ++ (T ++ ([z] ++ F)) ∧ RefAt rb R' (upG (gD M) f.n (f.l, f.mark))) :=
    (set_fn (F := z :: F) hb hM).mono fun u L' ⟨e, v', T', e2, hb'⟩ => ⟨e, rO rb v' :: T', by rw [e2]; rfl, v', T', _, rfl, hb', setD_ok hM h1, setD_g hM h2⟩
  refine h.perm (List.perm_append_comm_assoc (rO rb v :: T) [z] F) fun u L' ⟨e, R', e2, hR'⟩ => ⟨z :: (R' ++ (T ++ F)), ?_, e, R', rfl, hR'⟩
  rw [e2]
  exact ((List.perm_append_comm_assoc T [z] F).append_left R').trans (List.perm_append_comm_assoc R' [z] (T ++ F)) |>.symm
theorem set_rf {rb : Nat} {v : Value} {T F : List (Nat × Obj)} {M : List FdR} (hb : BufD v T M) (hM : DOk M) (f : FdR) (h1 : f.l ≠ [] → f.Ok) (h2 : f.l = [] → f.mark = 0) (z : Nat × Obj) :
    Fn Try.prog 62 [fP rb, .agg (fdC f)] (z :: (rO rb v :: T ++ F)) (fun u L' => u = .tuple #[] ∧ ∃ R', L' = z :: (R' ++ F) ∧ RefAt rb R' (upG (gD M) f.n (f.l, f.mark))) := by
  exact (set_rfK hb hM f h1 h2 z).permS (.refl _) fun u L' ⟨e, R', e2, hR'⟩ => ⟨z :: (R' ++ F), L', by rw [e2]; exact .cons_cons _ (.append (.refl _) (List.sublist_append_right _ _)), .refl _, e, R', rfl, hR'⟩
attribute [local irreducible] Fn WC WL WR OW Qt YieldFn QW
set_option maxHeartbeats 2000000 in
theorem append_rf {rb : Nat} {R F : List (Nat × Obj)} {g : FG} {n : Int} {b : List UInt8} (h : RefAt rb R g) (hn7 : n < 7) (hbl : b.length ≤ 1048576) : Fn Try.prog 36 [fP rb, .int .i64 n, .string (bstr b)] (R ++ F) (fun r L' => r = .int .i64 (appE g n b) ∧ ∃ R', L' = R' ++ F ∧ RefAt rb R' (appG g n b)) := by
  obtain ⟨v, T, M, rfl, hb, hM, rfl⟩ := id h
  have hv : FilesAt (rO rb v :: T ++ F) v M := hb.files fun q hq => by simp [hq]
  have hrb : (rO rb v :: T ++ F)[0]? = some (rO rb v) := rfl
  have hset := fun f h1 h2 z => set_rf (rb := rb) (F := F) hb hM f h1 h2 z
  obtain ⟨g1, g2, g3, g4⟩ := gD_lim hM n
  have hof : ofD M n = ⟨n, (gD M n).1, (gD M n).2⟩ := rfl
  refine Fn_enter Try.func36 rfl Try.ntmps36 rfl fun gw => ?_
  unfold appE appG
  by_cases hn : n < 0
  · have d1 : decide (n < 0) = true := decide_eq_true hn
    rw [if_pos hn, if_pos hn]
    repeat (first | ((first | refine WL_Q ?_); (first | refine QW_a ?_ | refine QW_of (Qt_fieldV rfl) ?_ | refine QW_of (Qt_ldX rfl (hn := by with_reducible assumption)) ?_)) | ((first | refine WL_op rfl ?_); (first | refine OW_alloc rfl (hk := fun _ => ?_) | refine OW_stA rfl ?_ | refine OW_stN rfl ?_ | refine OW_callP rfl (hF := of_fn hrb hv hM) (hk := ?_))) | refine WL_nil ?_ | refine WC_seq ?_ | refine WC_cond_t (ht := ?_) | refine WC_cond_f (he := ?_) | refine WC_skip ?_ | refine WC_ret ?_ | refine WC_region (id := 0) ?_ | refine WC_region (id := 1) ?_ | refine WC_region (id := 2) ?_ | refine WC_region (id := 3) ?_)
    exact ⟨rfl, _, _, Res1 rfl (resV_tmp rfl), .cons _ (.refl _), rfl, _, rfl, h⟩
  have d1 : decide (n < 0) = false := decide_eq_false hn
  rw [if_neg hn, if_neg hn]
  repeat (first | ((first | refine WL_Q ?_); (first | refine QW_a ?_ | refine QW_of (Qt_fieldV rfl) ?_ | refine QW_of (Qt_ldX rfl (hn := by with_reducible assumption)) ?_)) | ((first | refine WL_op rfl ?_); (first | refine OW_alloc rfl (hk := fun _ => ?_) | refine OW_stA rfl ?_ | refine OW_stN rfl ?_ | refine OW_callP rfl (hF := of_fn hrb hv hM) (hk := ?_))) | refine WL_nil ?_ | refine WC_seq ?_ | refine WC_cond_t (ht := ?_) | refine WC_cond_f (he := ?_) | refine WC_skip ?_ | refine WC_ret ?_ | refine WC_region (id := 0) ?_ | refine WC_region (id := 1) ?_ | refine WC_region (id := 2) ?_ | refine WC_region (id := 4) ?_)
  have f1 : (ofD M n).l.length ≤ 1048576 := g1
  have f2 : (ofD M n).mark ≤ (ofD M n).l.length := g2
  have f3 : (ofD M n).n = n := rfl
  have f4 : (gD M n).1 = (ofD M n).l := rfl
  have f5 : (gD M n).2 = (ofD M n).mark := rfl
  have f6 : (ofD M n).l = [] → (ofD M n).mark = 0 := fun e => congrArg Prod.snd (g4 e)
  rw [f4, f5]
  generalize ofD M n = f at *
  rw [wI64 (x := ((f.l.length : Nat) : Int) + ((b.length : Nat) : Int)) (by omega) (by omega)]
  by_cases hbig : 1048576 < f.l.length + b.length
  · have d2 : decide (((f.l.length : Nat) : Int) + ((b.length : Nat) : Int) > 1048576) = true := decide_eq_true (by omega)
    rw [if_pos hbig, if_pos hbig]
    repeat (first | ((first | refine WL_Q ?_); (first | refine QW_a ?_ | refine QW_of (Qt_fieldV rfl) ?_ | refine QW_of (Qt_ldX rfl (hn := by with_reducible assumption)) ?_)) | refine WL_nil ?_ | refine WC_seq ?_ | refine WC_cond_t (ht := ?_) | refine WC_cond_f (he := ?_) | refine WC_skip ?_ | refine WC_ret ?_ | refine WC_region (id := 4) ?_ | refine WC_region (id := 5) ?_)
    exact ⟨rfl, _, _, Res1 rfl (resV_tmp rfl), .cons _ (.refl _), rfl, _, rfl, h⟩
  · have d2 : decide (((f.l.length : Nat) : Int) + ((b.length : Nat) : Int) > 1048576) = false := decide_eq_false (by omega)
    rw [if_neg hbig, if_neg hbig]
    repeat (first | ((first | refine WL_Q ?_); (first | refine QW_a ?_ | refine QW_of (Qt_fieldV rfl) ?_ | refine QW_of (Qt_ldX rfl (hn := by with_reducible assumption)) ?_)) | ((first | refine WL_op rfl ?_); (first | refine OW_st1 rfl ?_)) | refine WL_nil ?_ | refine WC_seq ?_ | refine WC_cond_t (ht := ?_) | refine WC_cond_f (he := ?_) | refine WC_skip ?_ | refine WC_ret ?_ | refine WC_region (id := 4) ?_ | refine WC_region (id := 6) ?_ | refine WC_region (id := 7) ?_)
    refine WL_op rfl (OW_call rfl (hF := hset ⟨f.n, f.l ++ b, f.mark⟩ (fun hne => ⟨by dsimp only; omega, by dsimp only; omega, by rw [List.length_append]; omega, by rw [List.length_append]; exact Nat.le_trans f2 (by omega), hne⟩) (fun e => f6 (List.append_eq_nil_iff.1 e).1) _) (hk := ?_))
    rintro _ _ ⟨rfl, R', rfl, hR'⟩
    repeat (first | ((first | refine WL_Q ?_); (first | refine QW_a ?_ | refine QW_of (Qt_fieldV rfl) ?_ | refine QW_of (Qt_ldX rfl (hn := by with_reducible assumption)) ?_)) | refine WL_nil ?_ | refine WC_seq ?_ | refine WC_cond_t (ht := ?_) | refine WC_cond_f (he := ?_) | refine WC_skip ?_ | refine WC_ret ?_ | refine WC_region (id := 7) ?_ | refine WC_region (id := 8) ?_)
    rw [f3] at hR'
    exact ⟨rfl, _, _, Res1 rfl (resV_tmp rfl), .cons _ (.refl _), rfl, R', rfl, hR'⟩
set_option maxHeartbeats 2000000 in
theorem cut_rf {rb : Nat} {R F : List (Nat × Obj)} {g : FG} {n many : Int} (h : RefAt rb R g) : Fn Try.prog 38 [fP rb, .int .i64 n, .int .i64 many] (R ++ F) (fun r L' => r = .int .i64 (cutE g n many) ∧ ∃ R', L' = R' ++ F ∧ RefAt rb R' (cutG g n many)) := by
  obtain ⟨v, T, M, rfl, hb, hM, rfl⟩ := id h
  have hv : FilesAt (rO rb v :: T ++ F) v M := hb.files fun q hq => by simp [hq]
  have hrb : (rO rb v :: T ++ F)[0]? = some (rO rb v) := rfl
  have hset := fun f h1 h2 z => set_rf (rb := rb) (F := F) hb hM f h1 h2 z
  obtain ⟨r, hr⟩ := findD_ex M n
  have hl := hM.len
  refine Fn_enter Try.func38 rfl Try.ntmps38 rfl fun gw => ?_
  rcases id hr with ⟨rfl, hno⟩ | ⟨i, x, hx, rfl, rfl⟩
  · have d1 : decide ((-1 : Int) < 0) = true := rfl
    repeat (first | ((first | refine WL_Q ?_); (first | refine QW_a ?_ | refine QW_of (Qt_fieldV rfl) ?_ | refine QW_of (Qt_ldX rfl (hn := by with_reducible assumption)) ?_)) | ((first | refine WL_op rfl ?_); (first | refine OW_callP rfl (hF := find_fn hrb hv hM hr) (hk := ?_))) | refine WL_nil ?_ | refine WC_seq ?_ | refine WC_cond_t (ht := ?_) | refine WC_cond_f (he := ?_) | refine WC_skip ?_ | refine WC_ret ?_ | refine WC_region (id := 0) ?_ | refine WC_region (id := 1) ?_ | refine WC_region (id := 2) ?_)
    have e : cutE (gD M) n many = 10 := by unfold cutE; rw [gD_none hno, if_pos rfl]
    unfold cutG
    rw [e, if_neg (by decide)]
    exact ⟨rfl, _, _, Res1 rfl (resV_tmp rfl), .refl _, rfl, _, rfl, h⟩
  · have d1 : decide (((i : Nat) : Int) < 0) = false := decide_eq_false (by omega)
    have hxm := List.mem_of_getElem? hx
    obtain ⟨n0, n1, sz, mk, ne⟩ := hM.ok x hxm
    repeat (first | ((first | refine WL_Q ?_); (first | refine QW_a ?_ | refine QW_of (Qt_fieldV rfl) ?_ | refine QW_of (Qt_ldX rfl (hn := by with_reducible assumption)) ?_)) | ((first | refine WL_op rfl ?_); (first | refine OW_alloc rfl (hk := fun _ => ?_) | refine OW_stA rfl ?_ | refine OW_stN rfl ?_ | refine OW_callP rfl (hF := of_fn hrb hv hM) (hk := ?_) | refine OW_callP rfl (hF := find_fn hrb hv hM hr) (hk := ?_))) | refine WL_nil ?_ | refine WC_seq ?_ | refine WC_cond_t (ht := ?_) | refine WC_cond_f (he := ?_) | refine WC_skip ?_ | refine WC_ret ?_ | refine WC_region (id := 0) ?_ | refine WC_region (id := 1) ?_ | refine WC_region (id := 3) ?_)
    rw [ofD_some hM hxm]
    by_cases h0 : many < 0
    · have d2 : decide (many < 0) = true := decide_eq_true h0
      repeat (first | ((first | refine WL_Q ?_ | refine WL_Y ?_); (first | refine QW_a ?_ | refine QW_of (Qt_fieldV rfl) ?_ | refine QW_of (Qt_ldX rfl (hn := by with_reducible assumption)) ?_)) | ((first | refine WL_op rfl ?_ | refine WL_yes (h := ?_)); (first | refine OW_alloc rfl (hk := fun _ => ?_) | refine OW_stA rfl ?_ | refine OW_stN rfl ?_ | refine OW_callP rfl (hF := of_fn hrb hv hM) (hk := ?_))) | refine WL_nil ?_ | refine WL_un (h := ?_) | refine WL_N ?_ | refine WL_M ?_ | refine WC_seq ?_ | refine WC_cond_t (ht := ?_) | refine WC_cond_f (he := ?_) | refine WC_skip ?_ | refine WC_ret ?_ | refine WC_region (id := 3) ?_ | refine WC_region (id := 4) ?_ | refine WC_region (id := 5) ?_)
      have e : cutE (gD M) x.n many = 2 := by unfold cutE; rw [gD_some hM hxm, if_neg ne, if_pos (.inl h0)]
      unfold cutG
      rw [e, if_neg (by decide)]
      exact ⟨rfl, _, _, Res1 rfl (resV_tmp rfl), .cons _ (.refl _), rfl, _, rfl, h⟩
    have d2 : decide (many < 0) = false := decide_eq_false h0
    by_cases h1 : ((x.l.length : Nat) : Int) < many
    · have d3 : decide (many > ((x.l.length : Nat) : Int)) = true := decide_eq_true h1
      repeat (first | ((first | refine WL_Q ?_ | refine WL_Y ?_); (first | refine QW_a ?_ | refine QW_of (Qt_fieldV rfl) ?_ | refine QW_of (Qt_ldX rfl (hn := by with_reducible assumption)) ?_)) | ((first | refine WL_op rfl ?_ | refine WL_yes (h := ?_)); (first | refine OW_alloc rfl (hk := fun _ => ?_) | refine OW_stA rfl ?_ | refine OW_stN rfl ?_ | refine OW_callP rfl (hF := of_fn hrb hv hM) (hk := ?_))) | refine WL_nil ?_ | refine WL_un (h := ?_) | refine WL_N ?_ | refine WL_M ?_ | refine WC_seq ?_ | refine WC_cond_t (ht := ?_) | refine WC_cond_f (he := ?_) | refine WC_skip ?_ | refine WC_ret ?_ | refine WC_region (id := 3) ?_ | refine WC_region (id := 4) ?_ | refine WC_region (id := 5) ?_)
      have e : cutE (gD M) x.n many = 2 := by unfold cutE; rw [gD_some hM hxm, if_neg ne, if_pos (.inr h1)]
      unfold cutG
      rw [e, if_neg (by decide)]
      exact ⟨rfl, _, _, Res1 rfl (resV_tmp rfl), .cons _ (.refl _), rfl, _, rfl, h⟩
    have d3 : decide (many > ((x.l.length : Nat) : Int)) = false := decide_eq_false h1
    obtain ⟨k, rfl⟩ : ∃ k : Nat, many = k := ⟨many.toNat, by omega⟩
    repeat (first | ((first | refine WL_Q ?_ | refine WL_Y ?_); (first | refine QW_a ?_ | refine QW_of (Qt_fieldV rfl) ?_ | refine QW_of (Qt_ldX rfl (hn := by with_reducible assumption)) ?_)) | ((first | refine WL_op rfl ?_ | refine WL_yes (h := ?_)); (first | refine OW_alloc rfl (hk := fun _ => ?_) | refine OW_stA rfl ?_ | refine OW_stN rfl ?_ | refine OW_callP rfl (hF := of_fn hrb hv hM) (hk := ?_))) | refine WL_nil ?_ | refine WL_un (h := ?_) | refine WL_N ?_ | refine WL_M ?_ | refine WC_seq ?_ | refine WC_cond_t (ht := ?_) | refine WC_cond_f (he := ?_) | refine WC_skip ?_ | refine WC_ret ?_ | refine WC_region (id := 3) ?_ | refine WC_region (id := 4) ?_ | refine WC_region (id := 6) ?_)
    rw [Int.toNat_natCast]
    have e : cutE (gD M) x.n k = 0 := by unfold cutE; rw [gD_some hM hxm, if_neg ne, if_neg (by dsimp only; omega)]
    have hlen : (x.l.take k).length = k := by rw [List.length_take]; omega
    unfold cutG
    rw [e, if_pos rfl, gD_some hM hxm, Int.toNat_natCast]
    repeat (first | ((first | refine WL_Q ?_); (first | refine QW_a ?_ | refine QW_of (Qt_fieldV rfl) ?_ | refine QW_of (Qt_ldX rfl (hn := by with_reducible assumption)) ?_)) | refine WL_nil ?_ | refine WC_seq ?_ | refine WC_cond_t (ht := ?_) | refine WC_cond_f (he := ?_) | refine WC_skip ?_ | refine WC_ret ?_ | refine WC_region (id := 6) ?_)
    refine WL_op rfl (OW_call rfl (hF := hset ⟨x.n, x.l.take k, k⟩ (fun hne => ⟨n0, n1, by rw [hlen]; omega, by rw [hlen]; exact Nat.le_refl _, hne⟩) (fun e => by have := congrArg List.length e; rw [hlen] at this; exact this) _) (hk := ?_))
    rintro _ _ ⟨rfl, R', rfl, hR'⟩
    repeat (first | ((first | refine WL_Q ?_); (first | refine QW_a ?_ | refine QW_of (Qt_fieldV rfl) ?_ | refine QW_of (Qt_ldX rfl (hn := by with_reducible assumption)) ?_)) | refine WL_nil ?_ | refine WC_seq ?_ | refine WC_cond_t (ht := ?_) | refine WC_cond_f (he := ?_) | refine WC_skip ?_ | refine WC_ret ?_ | refine WC_region (id := 6) ?_ | refine WC_region (id := 7) ?_)
    exact ⟨rfl, _, _, Res1 rfl (resV_tmp rfl), .cons _ (.refl _), rfl, R', rfl, hR'⟩
set_option maxHeartbeats 2000000 in
theorem cut_rfK {rb : Nat} {v : Value} {T F : List (Nat × Obj)} {M : List FdR} {n : Int} {k : Nat} (hb : BufD v T M) (hM : DOk M) (hk : k ≤ (gD M n).1.length) (hn : (gD M n).1 ≠ []) : Fn Try.prog 38 [fP rb, .int .i64 n, .int .i64 k] (rO rb v :: T ++ F) (fun r L' => r = .int .i64 0 ∧ ∃ R', L' = R' ++ (T ++ F) ∧ RefAt rb R' (upG (gD M) n ((gD M n).1.take k, k))) := by
  have hv : FilesAt (rO rb v :: T ++ F) v M := hb.files fun q hq => by simp [hq]
  have hrb : (rO rb v :: T ++ F)[0]? = some (rO rb v) := rfl
  have hset := fun f h1 h2 z => set_rfK (rb := rb) (F := F) hb hM f h1 h2 z
  obtain ⟨r, hr⟩ := findD_ex M n
  have hl := hM.len
  refine Fn_enter Try.func38 rfl Try.ntmps38 rfl fun gw => ?_
  rcases id hr with ⟨rfl, hno⟩ | ⟨i, x, hx, rfl, rfl⟩
  · exact absurd (by rw [gD_none hno]) hn
  · have d1 : decide (((i : Nat) : Int) < 0) = false := decide_eq_false (by omega)
    have hxm := List.mem_of_getElem? hx
    obtain ⟨n0, n1, sz, mk, ne⟩ := hM.ok x hxm
    rw [gD_some hM hxm] at hk ⊢
    dsimp only at hk ⊢
    repeat (first | ((first | refine WL_Q ?_); (first | refine QW_a ?_ | refine QW_of (Qt_fieldV rfl) ?_ | refine QW_of (Qt_ldX rfl (hn := by with_reducible assumption)) ?_)) | ((first | refine WL_op rfl ?_); (first | refine OW_alloc rfl (hk := fun _ => ?_) | refine OW_stA rfl ?_ | refine OW_stN rfl ?_ | refine OW_callP rfl (hF := of_fn hrb hv hM) (hk := ?_) | refine OW_callP rfl (hF := find_fn hrb hv hM hr) (hk := ?_))) | refine WL_nil ?_ | refine WC_seq ?_ | refine WC_cond_t (ht := ?_) | refine WC_cond_f (he := ?_) | refine WC_skip ?_ | refine WC_ret ?_ | refine WC_region (id := 0) ?_ | refine WC_region (id := 1) ?_ | refine WC_region (id := 3) ?_)
    rw [ofD_some hM hxm]
    have d2 : decide (((k : Nat) : Int) < 0) = false := decide_eq_false (by omega)
    have d3 : decide (((k : Nat) : Int) > ((x.l.length : Nat) : Int)) = false := decide_eq_false (by omega)
    repeat (first | ((first | refine WL_Q ?_ | refine WL_Y ?_); (first | refine QW_a ?_ | refine QW_of (Qt_fieldV rfl) ?_ | refine QW_of (Qt_ldX rfl (hn := by with_reducible assumption)) ?_)) | ((first | refine WL_op rfl ?_ | refine WL_yes (h := ?_)); (first | refine OW_alloc rfl (hk := fun _ => ?_) | refine OW_stA rfl ?_ | refine OW_stN rfl ?_ | refine OW_callP rfl (hF := of_fn hrb hv hM) (hk := ?_))) | refine WL_nil ?_ | refine WL_un (h := ?_) | refine WL_N ?_ | refine WL_M ?_ | refine WC_seq ?_ | refine WC_cond_t (ht := ?_) | refine WC_cond_f (he := ?_) | refine WC_skip ?_ | refine WC_ret ?_ | refine WC_region (id := 3) ?_ | refine WC_region (id := 4) ?_ | refine WC_region (id := 6) ?_)
    rw [Int.toNat_natCast]
    have hlen : (x.l.take k).length = k := by rw [List.length_take]; omega
    repeat (first | ((first | refine WL_Q ?_); (first | refine QW_a ?_ | refine QW_of (Qt_fieldV rfl) ?_ | refine QW_of (Qt_ldX rfl (hn := by with_reducible assumption)) ?_)) | refine WL_nil ?_ | refine WC_seq ?_ | refine WC_cond_t (ht := ?_) | refine WC_cond_f (he := ?_) | refine WC_skip ?_ | refine WC_ret ?_ | refine WC_region (id := 6) ?_)
    refine WL_op rfl (OW_call rfl (hF := hset ⟨x.n, x.l.take k, k⟩ (fun hne => ⟨n0, n1, by rw [hlen]; omega, by rw [hlen]; exact Nat.le_refl _, hne⟩) (fun e => by have := congrArg List.length e; rw [hlen] at this; exact this) _) (hk := ?_))
    rintro _ _ ⟨rfl, R', rfl, hR'⟩
    repeat (first | ((first | refine WL_Q ?_); (first | refine QW_a ?_ | refine QW_of (Qt_fieldV rfl) ?_ | refine QW_of (Qt_ldX rfl (hn := by with_reducible assumption)) ?_)) | refine WL_nil ?_ | refine WC_seq ?_ | refine WC_cond_t (ht := ?_) | refine WC_cond_f (he := ?_) | refine WC_skip ?_ | refine WC_ret ?_ | refine WC_region (id := 6) ?_ | refine WC_region (id := 7) ?_)
    exact ⟨rfl, _, _, Res1 rfl (resV_tmp rfl), .cons _ (.refl _), rfl, R', rfl, hR'⟩
theorem remove_rf {rb : Nat} {R F : List (Nat × Obj)} {g : FG} {n : Int} (h : RefAt rb R g) : Fn Try.prog 39 [fP rb, .int .i64 n] (R ++ F) (fun r L' => r = .int .i64 (cutE g n 0) ∧ ∃ R', L' = R' ++ F ∧ RefAt rb R' (cutG g n 0)) := by
  refine Fn_enter Try.func39 rfl Try.ntmps39 rfl fun gw => ?_
  repeat (first | ((first | refine WL_Q ?_); (first | refine QW_a ?_ | refine QW_of (Qt_fieldV rfl) ?_ | refine QW_of (Qt_ldX rfl (hn := by with_reducible assumption)) ?_)) | ((first | refine WL_op rfl ?_); (first | (refine OW_call rfl (hF := cut_rf h) (hk := ?_); rintro _ _ ⟨rfl, R', rfl, h'⟩))) | refine WL_nil ?_ | refine WC_seq ?_ | refine WC_ret ?_ | refine WC_region ?_)
  exact ⟨rfl, _, _, Res1 rfl (resV_tmp rfl), .refl _, rfl, R', rfl, h'⟩
set_option maxHeartbeats 1000000 in
theorem sync_rf {rb : Nat} {R F : List (Nat × Obj)} {g : FG} {n : Int} (h : RefAt rb R g) : Fn Try.prog 37 [fP rb, .int .i64 n] (R ++ F) (fun r L' => r = .int .i64 (syncE g n) ∧ ∃ R', L' = R' ++ F ∧ RefAt rb R' (syncG g n)) := by
  obtain ⟨v, T, M, rfl, hb, hM, rfl⟩ := id h
  have hv : FilesAt (rO rb v :: T ++ F) v M := hb.files fun q hq => by simp [hq]
  have hrb : (rO rb v :: T ++ F)[0]? = some (rO rb v) := rfl
  obtain ⟨r, hr⟩ := findD_ex M n
  refine Fn_enter Try.func37 rfl Try.ntmps37 rfl fun gw => ?_
  rcases id hr with ⟨rfl, hno⟩ | ⟨i, x, hx, rfl, rfl⟩
  · have d1 : decide ((-1 : Int) < 0) = true := rfl
    repeat (first | ((first | refine WL_Q ?_); (first | refine QW_a ?_ | refine QW_of (Qt_fieldV rfl) ?_ | refine QW_of (Qt_ldX rfl (hn := by with_reducible assumption)) ?_)) | ((first | refine WL_op rfl ?_); (first | refine OW_callP rfl (hF := find_fn hrb hv hM hr) (hk := ?_))) | refine WL_nil ?_ | refine WC_seq ?_ | refine WC_cond_t (ht := ?_) | refine WC_cond_f (he := ?_) | refine WC_skip ?_ | refine WC_ret ?_ | refine WC_region (id := 0) ?_ | refine WC_region (id := 1) ?_ | refine WC_region (id := 2) ?_)
    unfold syncE syncG
    rw [gD_none hno, if_pos rfl, if_pos rfl]
    exact ⟨rfl, _, _, Res1 rfl (resV_tmp rfl), .refl _, rfl, _, rfl, h⟩
  · have d1 : decide (((i : Nat) : Int) < 0) = false := decide_eq_false (by omega)
    have hxm := List.mem_of_getElem? hx
    have ne := (hM.ok x hxm).ne
    repeat (first | ((first | refine WL_Q ?_); (first | refine QW_a ?_ | refine QW_of (Qt_fieldV rfl) ?_ | refine QW_of (Qt_ldX rfl (hn := by with_reducible assumption)) ?_)) | ((first | refine WL_op rfl ?_); (first | refine OW_callP rfl (hF := of_fn hrb hv hM) (hk := ?_) | refine OW_callP rfl (hF := find_fn hrb hv hM hr) (hk := ?_) | (refine OW_call rfl (hF := cut_rf h) (hk := ?_); rintro _ _ ⟨rfl, R', rfl, h'⟩))) | refine WL_nil ?_ | refine WC_seq ?_ | refine WC_cond_t (ht := ?_) | refine WC_cond_f (he := ?_) | refine WC_skip ?_ | refine WC_ret ?_ | refine WC_region (id := 0) ?_ | refine WC_region (id := 1) ?_ | refine WC_region (id := 3) ?_)
    rw [ofD_some hM hxm]
    repeat (first | ((first | refine WL_Q ?_); (first | refine QW_a ?_ | refine QW_of (Qt_fieldV rfl) ?_ | refine QW_of (Qt_ldX rfl (hn := by with_reducible assumption)) ?_)) | ((first | refine WL_op rfl ?_); (first | refine OW_callP rfl (hF := of_fn hrb hv hM) (hk := ?_) | (refine OW_call rfl (hF := cut_rf h) (hk := ?_); rintro _ _ ⟨rfl, R', rfl, h'⟩))) | refine WL_nil ?_ | refine WC_seq ?_ | refine WC_cond_t (ht := ?_) | refine WC_cond_f (he := ?_) | refine WC_skip ?_ | refine WC_ret ?_ | refine WC_region (id := 3) ?_)
    have e : cutE (gD M) x.n x.l.length = 0 := by unfold cutE; rw [gD_some hM hxm, if_neg ne, if_neg (by dsimp only; omega)]
    have e2 : cutG (gD M) x.n x.l.length = syncG (gD M) x.n := by
      unfold cutG syncG
      rw [e, if_pos rfl, gD_some hM hxm, if_neg ne, Int.toNat_natCast, List.take_length]
    have e3 : syncE (gD M) x.n = 0 := by unfold syncE; rw [gD_some hM hxm, if_neg ne]
    refine ⟨rfl, _, _, Res1 rfl (resV_tmp rfl), .refl _, ?_, R', rfl, ?_⟩
    · rw [e, e3]
    · rw [← e2]; rw [ofD_some hM hxm] at h'; exact h'
theorem read_rf {rb : Nat} {R F : List (Nat × Obj)} {g : FG} {n : Int} (h : RefAt rb R g) : Fn Try.prog 41 [fP rb, .int .i64 n] (R ++ F) (fun r L' => r = .tuple #[.string (bstr (g n).1), .int .i64 (syncE g n)] ∧ L' = R ++ F) := by
  obtain ⟨v, T, M, rfl, hb, hM, rfl⟩ := id h
  have hv : FilesAt (rO rb v :: T ++ F) v M := hb.files fun q hq => by simp [hq]
  have hrb : (rO rb v :: T ++ F)[0]? = some (rO rb v) := rfl
  obtain ⟨r, hr⟩ := findD_ex M n
  refine Fn_enter Try.func41 rfl Try.ntmps41 rfl fun gw => ?_
  rcases id hr with ⟨rfl, hno⟩ | ⟨i, x, hx, rfl, rfl⟩
  · have d1 : decide ((-1 : Int) < 0) = true := rfl
    repeat (first | ((first | refine WL_Q ?_); (first | refine QW_a ?_ | refine QW_of (Qt_fieldV rfl) ?_ | refine QW_of (Qt_ldX rfl (hn := by with_reducible assumption)) ?_)) | ((first | refine WL_op rfl ?_); (first | refine OW_callP rfl (hF := find_fn hrb hv hM hr) (hk := ?_))) | refine WL_nil ?_ | refine WC_seq ?_ | refine WC_cond_t (ht := ?_) | refine WC_cond_f (he := ?_) | refine WC_skip ?_ | refine WC_ret ?_ | refine WC_region (id := 0) ?_ | refine WC_region (id := 1) ?_ | refine WC_region (id := 2) ?_)
    unfold syncE
    rw [gD_none hno, if_pos rfl]
    exact ⟨rfl, _, _, Res2 rfl (resV_tmp rfl) (resV_tmp rfl), .refl _, rfl, rfl⟩
  · have d1 : decide (((i : Nat) : Int) < 0) = false := decide_eq_false (by omega)
    have hxm := List.mem_of_getElem? hx
    have ne := (hM.ok x hxm).ne
    repeat (first | ((first | refine WL_Q ?_); (first | refine QW_a ?_ | refine QW_of (Qt_fieldV rfl) ?_ | refine QW_of (Qt_ldX rfl (hn := by with_reducible assumption)) ?_)) | ((first | refine WL_op rfl ?_); (first | refine OW_callP rfl (hF := of_fn hrb hv hM) (hk := ?_) | refine OW_callP rfl (hF := find_fn hrb hv hM hr) (hk := ?_))) | refine WL_nil ?_ | refine WC_seq ?_ | refine WC_cond_t (ht := ?_) | refine WC_cond_f (he := ?_) | refine WC_skip ?_ | refine WC_ret ?_ | refine WC_region (id := 0) ?_ | refine WC_region (id := 1) ?_ | refine WC_region (id := 3) ?_)
    rw [ofD_some hM hxm]
    repeat (first | ((first | refine WL_Q ?_); (first | refine QW_a ?_ | refine QW_of (Qt_fieldV rfl) ?_ | refine QW_of (Qt_ldX rfl (hn := by with_reducible assumption)) ?_)) | ((first | refine WL_op rfl ?_); (first | refine OW_callP rfl (hF := of_fn hrb hv hM) (hk := ?_))) | refine WL_nil ?_ | refine WC_seq ?_ | refine WC_cond_t (ht := ?_) | refine WC_cond_f (he := ?_) | refine WC_skip ?_ | refine WC_ret ?_ | refine WC_region (id := 3) ?_)
    unfold syncE
    rw [gD_some hM hxm, if_neg ne]
    exact ⟨rfl, _, _, Res2 rfl (resV_tmp rfl) (resV_tmp rfl), .refl _, rfl, rfl⟩
end Go.Proofs.Ytmdiabglbmgkkaa
namespace Go.Proofs.Ytmdiabglbmgkkaa
open Go.RowKit
theorem FilesAt.mem {L L' : List (Nat × Obj)} {v : Value} {M : List FdR} (h : FilesAt L v M) (hs : ∀ q ∈ L, q ∈ L') : FilesAt L' v M := by
  obtain ⟨a, cap, h1, h4⟩ := h
  refine ⟨a, cap, h1, h4.imp id ?_⟩
  rintro ⟨g, off, cur, E, fr, i, e1, e2, e3⟩
  obtain ⟨j, hj⟩ := List.mem_iff_getElem?.1 (hs _ (List.mem_of_getElem? e2))
  exact ⟨g, off, cur, E, fr, j, e1, hj, e3⟩
theorem gD_few {M : List FdR} (h : DOk M) : Few (gD M) := fun n hn => (gD_lim h n).2.2.1 hn
theorem gD_keys {M : List FdR} (h : DOk M) : M.map FdR.n = keys7 (gD M) := by
  refine keys7_eq (gD_few h) (List.pairwise_map.2 (h.rise.imp fun h => Int.le_of_lt h)) (List.pairwise_map.2 (h.rise.imp fun h => by omega)) fun n => ?_
  by_cases hex : ∃ x ∈ M, x.n = n
  · obtain ⟨x, hx, rfl⟩ := hex
    rw [gD_some h hx]
    exact ⟨fun _ => (h.ok x hx).ne, fun _ => List.mem_map.2 ⟨x, hx, rfl⟩⟩
  · rw [gD_none fun x hx e => hex ⟨x, hx, e⟩]
    simp only [ne_eq, not_true_eq_false, iff_false]
    exact fun hm => hex (List.mem_map.1 hm)
attribute [local irreducible] Fn WC WL WR OW Qt YieldFn QW
set_option maxHeartbeats 4000000 in
theorem crash_rf {rb : Nat} {R F : List (Nat × Obj)} {g : FG} {chv : Value} {ch : List UInt8} (h : RefAt rb R g) (hch : ByAt F chv ch) : Fn Try.prog 40 [fP rb, chv] (R ++ F) (fun u L' => u = .tuple #[] ∧ ∃ R', L' = R' ++ F ∧ RefAt rb R' (crashG g ch)) := by
  obtain ⟨v, T, M, rfl, hb, hM, rfl⟩ := h
  have hv : FilesAt (T ++ F) v M := hb.files fun q hq => by simp [hq]
  have hrb : (rO rb v :: T ++ F)[0]? = some (rO rb v) := rfl
  have hl := hM.len
  have hkeys := gD_keys hM
  obtain ⟨a, cap, rfl, _⟩ := id hv
  obtain ⟨_, ac, cc, rfl, _, _, _⟩ := id hch
  refine Fn_enter Try.func40 rfl Try.ntmps40 rfl fun gw => ?_
  repeat (first | ((first | refine WL_Q ?_); (first | refine QW_a ?_ | refine QW_of (Qt_fieldV rfl) ?_ | refine QW_of (Qt_ldX rfl (hn := by with_reducible assumption)) ?_)) | refine WL_nil ?_ | refine WC_seq ?_ | refine WC_block ?_ | refine WC_cond_t (ht := ?_) | refine WC_cond_f (he := ?_) | refine WC_skip ?_ | refine WC_exit ?_ | refine WC_region (id := 0) ?_ | refine WC_region (id := 1) ?_)
  refine WC_wk [(5, .int .i64 ((0 : Nat) : Int)), (4, .slice a M.length cap), (1, .slice ac ch.length cc), (0, fP rb)] ⟨rfl, rfl, rfl, rfl, trivial⟩ ?_
  refine WC_loop (fun m σ => ∃ (i : Nat) (chi : List UInt8) (vi v' : Value) (T' F' : List (Nat × Obj)) (M' : List FdR), m = M.length - i ∧ i ≤ M.length ∧ BufD v' T' M' ∧ DOk M' ∧ crashes ((M.take i).map FdR.n) (gD M) ch = (gD M', chi) ∧ FilesAt (T' ++ F') (.slice a M.length cap) M ∧ ByAt F' vi chi ∧ F.Sublist F' ∧ σ = ⟨[(5, .int .i64 i), (4, .slice a M.length cap), (1, vi), (0, fP rb)], [], rO rb v' :: T' ++ F'⟩) M.length ⟨0, ch, _, _, T, F, M, by omega, by omega, hb, hM, rfl, hv, hch, .refl _, rfl⟩ ?_
  clear hch hv hb hrb
  rintro m σ ⟨i, chi, vi, v', T', F', M', rfl, hi, hb', hM', hcr, hv, hch, hsub, rfl⟩
  by_cases hlt : i < M.length
  · have d2 : decide ((i : Int) < ((M.length : Nat) : Int)) = true := decide_eq_true (by omega)
    obtain ⟨x, hx⟩ : ∃ x, M[i]? = some x := ⟨_, List.getElem?_eq_getElem hlt⟩
    have hv1 : FilesAt (rO rb v' :: T' ++ F') (.slice a M.length cap) M := hv.mem fun q hq => List.mem_cons_of_mem _ hq
    obtain ⟨g1, o1, cu1, E1, fr1, i1, rfl, hi1, x1, z1, q0, q1, q2⟩ := hv1.at_ hx
    have p0 : (0 : Int) ≤ (i : Int) := by omega
    have p1 : ((i : Nat) : Int) < ((M.length : Nat) : Int) := by omega
    have y1 : o1 + ((i : Nat) : Int).toNat * 3 + 3 ≤ cu1.size := by rw [Int.toNat_natCast]; exact z1
    have v1' : cu1.extract (o1 + ((i : Nat) : Int).toNat * 3) (o1 + ((i : Nat) : Int).toNat * 3 + 3) = fdC x := by rw [Int.toNat_natCast]; exact x1
    have w : IntKind.i64.wrap ((i : Int) + 1) = ((i + 1 : Nat) : Int) := by rw [wI64 (by omega) (by omega)]; omega
    have htk : (M.take (i + 1)).map FdR.n = (M.take i).map FdR.n ++ [x.n] := by rw [List.take_add_one, hx]; simp
    have hxm := List.mem_of_getElem? hx
    obtain ⟨n0, n1, sz, mk, ne⟩ := hM.ok x hxm
    have hgx : gD M' x.n = (x.l, x.mark) := by
      rw [← gD_some hM hxm]
      have := crashes_keep ((M.take i).map FdR.n) (gD M) ch x.n (fun hm => by
        obtain ⟨y, hy, e⟩ := List.mem_map.1 hm
        obtain ⟨j, hj⟩ := List.mem_iff_getElem?.1 hy
        rw [List.getElem?_take] at hj
        split at hj
        · have := hM.same hj hx e
          omega
        · cases hj)
      rw [hcr] at this
      exact this
    repeat (first | ((first | refine WL_Q ?_); (first | refine QW_a ?_ | refine QW_of (Qt_fieldV rfl) ?_ | refine QW_of (Qt_ldX rfl (hn := by with_reducible assumption)) ?_)) | ((first | refine WL_op rfl ?_); (first | refine OW_alloc rfl (hk := fun _ => ?_) | refine OW_stA rfl ?_ | refine OW_stN rfl ?_)) | refine WL_nil ?_ | refine WC_seq ?_ | refine WC_block ?_ | refine WC_cond_t (ht := ?_) | refine WC_cond_f (he := ?_) | refine WC_skip ?_ | refine WC_exit ?_ | refine WC_region (id := 2) ?_ | refine WC_region (id := 4) ?_)
    rw [v1']
    repeat (first | ((first | refine WL_Q ?_); (first | refine QW_a ?_ | refine QW_of (Qt_fieldV rfl) ?_ | refine QW_of (Qt_ldX rfl (hn := by with_reducible assumption)) ?_)) | ((first | refine WL_op rfl ?_); (first | refine OW_alloc rfl (hk := fun _ => ?_) | refine OW_stA rfl ?_ | refine OW_stN rfl ?_)) | refine WL_nil ?_ | refine WC_seq ?_ | refine WC_block ?_ | refine WC_cond_t (ht := ?_) | refine WC_cond_f (he := ?_) | refine WC_skip ?_ | refine WC_exit ?_ | refine WC_region (id := 4) ?_ | refine WC_region (id := 5) ?_ | refine WC_region (id := 6) ?_)
    rename_i xb
    obtain ⟨_, va, vc, rfl, hvl, hvm, _⟩ := id hch
    have w0 : IntKind.i64.wrap (((x.l.length : Nat) : Int) - ((x.mark : Nat) : Int)) = ((x.l.length - x.mark : Nat) : Int) := by rw [wI64 (by omega) (by omega)]; omega
    rw [w0]
    refine WC_wk [(8, .int .i64 0), (7, .int .i64 ((x.l.length - x.mark : Nat))), (6, .pointer (some ⟨xb, 0, none⟩)), (5, .int .i64 i), (4, .slice (some ⟨g1, o1, none⟩) M.length cap), (1, .slice va chi.length vc), (0, fP rb)] ⟨rfl, rfl, rfl, rfl, rfl, rfl, rfl, trivial⟩ ?_
    refine WC_meet2 (fun σ => ∃ (k st : Nat) (v2 : Value) (ch' : List UInt8), k = x.mark + st ∧ crash1 (gD M', chi) x.n = (upG (gD M') x.n (x.l.take k, k), ch') ∧ k ≤ x.l.length ∧ ByAt F' v2 ch' ∧ σ = ⟨[(8, .int .i64 st), (6, .pointer (some ⟨xb, 0, none⟩)), (5, .int .i64 i), (4, .slice (some ⟨g1, o1, none⟩) M.length cap), (1, v2), (0, fP rb)], [], fdO xb x :: (rO rb v' :: T' ++ F')⟩) ?_ ?_
    · by_cases hmore : x.mark < x.l.length
      · have e1 : decide (((x.l.length - x.mark : Nat) : Int) > 0) = true := decide_eq_true (by omega)
        cases chi with
        | nil =>
          have e2 : decide (((([] : List UInt8).length : Nat) : Int) > 0) = false := by decide
          repeat (first | ((first | refine WL_Q ?_ | refine WL_Y ?_); (first | refine QW_a ?_ | refine QW_of (Qt_fieldV rfl) ?_ | refine QW_of (Qt_ldX rfl (hn := by with_reducible assumption)) ?_)) | refine WL_nil ?_ | refine WL_un (h := ?_) | refine WL_N ?_ | refine WL_M ?_ | refine WC_seq ?_ | refine WC_block ?_ | refine WC_cond_t (ht := ?_) | refine WC_cond_f (he := ?_) | refine WC_skip ?_ | refine WC_exit ?_ | refine WC_region (id := 7) ?_)
          exact ⟨_, ⟨x.mark, 0, _, [], by omega, by unfold crash1; simp only [hgx], mk, hch, rfl⟩, ⟨rfl, rfl, rfl, rfl, rfl, rfl, trivial⟩, rfl, .refl _⟩
        | cons u ch' =>
          have e2 : decide ((((u :: ch').length : Nat) : Int) > 0) = true := decide_eq_true (by simp only [List.length_cons]; omega)
          obtain ⟨gc, oc, cpc, cur, E, fr, ic, e3, hcl, hci, hcc⟩ := hch.head
          simp only [Value.slice.injEq] at e3
          obtain ⟨rfl, _, rfl⟩ := e3
          have hci' : (fdO xb x :: (rO rb v' :: T' ++ F'))[T'.length + ic + 2]? = some (gc, .cells cur E fr) := by
            show (T' ++ F')[T'.length + ic]? = _
            rw [List.getElem?_append_right (by omega), Nat.add_sub_cancel_left]
            exact hci
          have hcc' : cur[oc + (0 : Int).toNat * 1]? = some (bV u) := hcc
          have p1 : (0 : Int) < (((u :: ch').length : Nat) : Int) := by simp only [List.length_cons]; omega
          have p2 : (1 : Int) ≤ (((u :: ch').length : Nat) : Int) := by simp only [List.length_cons]; omega
          have w1 : IntKind.i64.wrap (((x.l.length - x.mark : Nat) : Int) + 1) = ((x.l.length - x.mark + 1 : Nat) : Int) := by rw [wI64 (by omega) (by omega)]; omega
          have w2 : IntKind.i64.wrap ((u.toNat : Nat) : Int) = ((u.toNat : Nat) : Int) := wI64 (by omega) (by have := u.toNat_lt; omega)
          have hne0 : IntKind.i64.wrap (((x.l.length - x.mark : Nat) : Int) + 1) ≠ 0 := by rw [w1]; omega
          have hlt' := Nat.mod_lt u.toNat (show 0 < x.l.length - x.mark + 1 by omega)
          have w3 : IntKind.i64.wrap (((u.toNat : Nat) : Int).tmod ((x.l.length - x.mark + 1 : Nat) : Int)) = ((u.toNat % (x.l.length - x.mark + 1) : Nat) : Int) := by
            rw [show ((u.toNat : Nat) : Int).tmod ((x.l.length - x.mark + 1 : Nat) : Int) = ((u.toNat % (x.l.length - x.mark + 1) : Nat) : Int) from rfl]
            rw [wI64 (by omega) (by omega)]
          repeat (first | ((first | refine WL_Q ?_ | refine WL_Y ?_); (first | refine QW_a ?_ | refine QW_of (Qt_fieldV rfl) ?_ | refine QW_of (Qt_ldX rfl (hn := by with_reducible assumption)) ?_)) | refine WL_nil ?_ | refine WL_un (h := ?_) | refine WL_N ?_ | refine WL_M ?_ | refine WC_seq ?_ | refine WC_block ?_ | refine WC_cond_t (ht := ?_) | refine WC_cond_f (he := ?_) | refine WC_skip ?_ | refine WC_exit ?_ | refine WC_region (id := 7) ?_ | refine WC_region (id := 8) ?_ | refine WC_region (id := 9) ?_)
          rw [w2, w1]
          refine ⟨_, ⟨x.mark + u.toNat % (x.l.length - x.mark + 1), u.toNat % (x.l.length - x.mark + 1), _, ch', rfl, ?_, by omega, hch.tail, rfl⟩, ⟨rfl, rfl, rfl, rfl, rfl, rfl, trivial⟩, rfl, .refl _⟩
          unfold crash1
          simp only [hgx]
          rw [if_pos hmore]
      · have e1 : decide (((x.l.length - x.mark : Nat) : Int) > 0) = false := decide_eq_false (by omega)
        repeat (first | ((first | refine WL_Q ?_ | refine WL_Y ?_); (first | refine QW_a ?_ | refine QW_of (Qt_fieldV rfl) ?_ | refine QW_of (Qt_ldX rfl (hn := by with_reducible assumption)) ?_)) | refine WL_nil ?_ | refine WL_un (h := ?_) | refine WL_N ?_ | refine WL_M ?_ | refine WC_seq ?_ | refine WC_block ?_ | refine WC_cond_t (ht := ?_) | refine WC_cond_f (he := ?_) | refine WC_skip ?_ | refine WC_exit ?_ | refine WC_region (id := 7) ?_)
        refine ⟨_, ⟨x.mark, 0, _, chi, by omega, ?_, mk, hch, rfl⟩, ⟨rfl, rfl, rfl, rfl, rfl, rfl, trivial⟩, rfl, .refl _⟩
        unfold crash1
        cases chi with
        | nil => simp only [hgx]
        | cons u ch' => simp only [hgx]; rw [if_neg hmore]
    · rintro _ ⟨k, st, v2, ch', hkst, hc1, hk, hch2, rfl⟩
      have w4 : IntKind.i64.wrap (((x.mark : Nat) : Int) + ((st : Nat) : Int)) = ((k : Nat) : Int) := by rw [wI64 (by omega) (by omega)]; omega
      repeat (first | ((first | refine WL_Q ?_); (first | refine QW_a ?_ | refine QW_of (Qt_fieldV rfl) ?_ | refine QW_of (Qt_ldX rfl (hn := by with_reducible assumption)) ?_)) | refine WL_nil ?_ | refine WC_seq ?_ | refine WC_block ?_ | refine WC_cond_t (ht := ?_) | refine WC_cond_f (he := ?_) | refine WC_skip ?_ | refine WC_exit ?_ | refine WC_region (id := 10) ?_)
      rw [w4]
      refine WL_permA (L' := rO rb v' :: T' ++ (fdO xb x :: F')) (List.perm_append_comm_assoc [fdO xb x] (rO rb v' :: T') F').symm ?_
      refine WL_op rfl (OW_call rfl (hF := cut_rfK (F := fdO xb x :: F') (n := x.n) (k := k) hb' hM' (by rw [hgx]; exact hk) (by rw [hgx]; exact ne)) (hk := ?_))
      rintro _ _ ⟨rfl, R2, rfl, v3, T3, M3, rfl, hb3, hM3, hg3⟩
      repeat (first | ((first | refine WL_Q ?_); (first | refine QW_a ?_ | refine QW_of (Qt_fieldV rfl) ?_ | refine QW_of (Qt_ldX rfl (hn := by with_reducible assumption)) ?_)) | refine WL_nil ?_ | refine WC_seq ?_ | refine WC_block ?_ | refine WC_cond_t (ht := ?_) | refine WC_cond_f (he := ?_) | refine WC_skip ?_ | refine WC_exit ?_ | refine WC_region (id := 10) ?_ | refine WC_region (id := 3) ?_)
      rw [w]
      refine ⟨_, _, by omega, ⟨i + 1, ch', v2, v3, T3, T' ++ (fdO xb x :: F'), M3, rfl, by omega, hb3, hM3, ?_, hv.mem fun q hq => ?_, (hch2.cons _).app _, (hsub.cons _).trans (List.sublist_append_right _ _), rfl⟩, ⟨rfl, rfl, rfl, rfl, trivial⟩, rfl, .refl _⟩
      · rw [htk, crashes_snoc, hcr, hc1, hg3, hgx]
      · rcases List.mem_append.1 hq with h | h <;> simp [h]
  · obtain rfl : i = M.length := by omega
    have d2 : decide (((M.length : Nat) : Int) < ((M.length : Nat) : Int)) = false := decide_eq_false (by omega)
    repeat (first | ((first | refine WL_Q ?_); (first | refine QW_a ?_ | refine QW_of (Qt_fieldV rfl) ?_ | refine QW_of (Qt_ldX rfl (hn := by with_reducible assumption)) ?_)) | refine WL_nil ?_ | refine WC_seq ?_ | refine WC_block ?_ | refine WC_cond_t (ht := ?_) | refine WC_cond_f (he := ?_) | refine WC_skip ?_ | refine WC_exit ?_ | refine WC_region (id := 2) ?_)
    refine ⟨rfl, _, rO rb v' :: T' ++ F, Res0 rfl, .append (.refl _) hsub, rfl, _, rfl, v', T', M', rfl, hb', hM', ?_⟩
    unfold crashG
    rw [← hkeys]
    rw [List.take_length] at hcr
    rw [hcr]
end Go.Proofs.Ytmdiabglbmgkkaa
