/-
  A part of what the last of these texts needs; by itself it proves no statement.
-/
import Derived.Shelf.Strings.Repeat
import Derived.Test.YtmdiabglbmgkkaaChecked
import Derived.ProofKit
import Derived.Test.YtmdiabglbmgkkaaKS2
namespace Go.Proofs.Ytmdiabglbmgkkaa
open Go.RowKit
theorem Fn.permS {P : Program} {f : FuncId} {args : List Value} {L L1 : List (Nat × Obj)} {R R1 : Value → List (Nat × Obj) → Prop} (h : Fn P f args L1 R1) (hp : L1.Perm L) (hr : ∀ v L', R1 v L' → ∃ L2 L3, L2.Sublist L3 ∧ L3.Perm L' ∧ R v L2) : Fn P f args L R := fun g w hm => by
  refine (h g w (hm.perm hp)).mono fun e w' ⟨v, L', h1, h2, h3⟩ => ?_
  obtain ⟨L2, L3, h4, h5, h6⟩ := hr v L' h3
  exact ⟨v, L2, h1, (h2.perm h5).sublist h4, h6⟩
def upG (g : FG) (n : Int) (x : List UInt8 × Nat) : FG := fun m => if m = n then x else g m
theorem upG_self (g : FG) (n : Int) : upG g n (g n) = g := by
  funext m; unfold upG
  by_cases h : m = n
  · rw [if_pos h, h]
  · rw [if_neg h]
def appE (g : FG) (n : Int) (b : List UInt8) : Int := if n < 0 then 2 else if 1048576 < (g n).1.length + b.length then 8 else 0
def appG (g : FG) (n : Int) (b : List UInt8) : FG := if n < 0 then g else if 1048576 < (g n).1.length + b.length then g else upG g n ((g n).1 ++ b, (g n).2)
def cutE (g : FG) (n many : Int) : Int := if (g n).1 = [] then 10 else if many < 0 ∨ ((g n).1.length : Int) < many then 2 else 0
def cutG (g : FG) (n many : Int) : FG := if cutE g n many = 0 then upG g n ((g n).1.take many.toNat, many.toNat) else g
def syncE (g : FG) (n : Int) : Int := if (g n).1 = [] then 10 else 0
def syncG (g : FG) (n : Int) : FG := if (g n).1 = [] then g else upG g n ((g n).1, (g n).1.length)
theorem st_open (p q : Nat × Obj) (A : List FiR) (r : FiR) (B : List FiR) (F : List (Nat × Obj)) : (p :: q :: fO r.fb r.v r.mark :: (r.T ++ (ownL A ++ (ownL B ++ F)))).Perm ((p :: q :: ownL (A ++ r :: B)) ++ F) := by
  rw [ownL_app, ownL_cons]
  refine .cons _ (.cons _ ?_)
  show (r.own ++ (ownL A ++ (ownL B ++ F))).Perm (ownL A ++ (r.own ++ ownL B) ++ F)
  rw [List.append_assoc, List.append_assoc]
  exact List.perm_append_comm_assoc ..
theorem ok_of {rs : List FiR} (h : ∀ r ∈ rs, r.Ok) {A : List FiR} {r : FiR} {B : List FiR} (e : rs = A ++ r :: B) : r.Ok ∧ ∀ r' : FiR, r'.Ok → ∀ q ∈ A ++ r' :: B, q.Ok := by
  subst e
  refine ⟨h r (by simp), fun r' h' q hq => ?_⟩
  rcases List.mem_append.1 hq with g | g
  · exact h q (List.mem_append_left _ g)
  · rcases List.mem_cons.1 g with rfl | g
    · exact h'
    · exact h q (by simp [g])
theorem st_set {es' : Array MapEntry} {cl' sb mb : Nat} {A : List FiR} {r : FiR} {B : List FiR} {F : List (Nat × Obj)} {v' : Value} {T' : List (Nat × Obj)} {l' : List UInt8} {mark' : Nat} (hA : r.n ∉ A.map FiR.n) (hr : ∀ q ∈ A ++ r :: B, q.Ok) (hb : BufB v' T' l') (hm : mark' ≤ l'.length) (hl : l'.length ≤ 1048576) (hne : l' ≠ [])
    (hmap : MapI .i64 es' cl' (fps (A ++ r :: B))) : ∃ L2 L3, List.Sublist L2 L3 ∧ L3.Perm (sO sb mb :: (mb, .map es' cl') :: fO r.fb v' mark' :: (T' ++ (ownL A ++ (ownL B ++ F)))) ∧ ∃ S', L2 = S' ++ F ∧ StAt sb S' (upG (gOf (A ++ r :: B)) r.n (l', mark')) := by
  refine ⟨_, _, .refl _, (st_open _ _ A { r with v := v', T := T', l := l', mark := mark' } B F).symm, _, rfl, mb, es', cl', _, rfl, ⟨?_, ?_⟩, ?_⟩
  · have : fps (A ++ { r with v := v', T := T', l := l', mark := mark' } :: B) = fps (A ++ r :: B) := by simp [fps]
    rw [this]; exact hmap
  · exact (ok_of hr rfl).2 _ ⟨hb, hm, hl, hne⟩
  · exact gOf_set (r := r) (r' := { r with v := v', T := T', l := l', mark := mark' }) rfl hA
theorem st_del {es' : Array MapEntry} {cl' sb mb : Nat} {A : List FiR} {r : FiR} {B : List FiR} {F : List (Nat × Obj)} {q0 : Nat × Obj} {T' : List (Nat × Obj)} (hn : ((A ++ r :: B).map FiR.n).Nodup) (hr : ∀ q ∈ A ++ r :: B, q.Ok)
    (hmap : MapI .i64 es' cl' (aDel (fps (A ++ r :: B)) r.n)) : ∃ L2 L3, List.Sublist L2 L3 ∧ L3.Perm (sO sb mb :: (mb, .map es' cl') :: q0 :: (T' ++ (ownL A ++ (ownL B ++ F)))) ∧ ∃ S', L2 = S' ++ F ∧ StAt sb S' (upG (gOf (A ++ r :: B)) r.n ([], 0)) := by
  refine ⟨(sO sb mb :: (mb, .map es' cl') :: ownL (A ++ B)) ++ F, _, ?_, .refl _, _, rfl, mb, es', cl', A ++ B, rfl, ⟨?_, ?_⟩, ?_⟩
  · rw [ownL_app]
    refine .cons_cons _ (.cons_cons _ (.cons _ ?_))
    show List.Sublist ((ownL A ++ ownL B) ++ F) _
    rw [List.append_assoc]
    exact List.sublist_append_right _ _
  · rw [← aDel_fps hn]; exact hmap
  · intro q hq
    refine hr q ?_
    rcases List.mem_append.1 hq with g | g
    · exact List.mem_append_left _ g
    · simp [g]
  · rw [gOf_del hn]
    rfl
theorem st_some {es : Array MapEntry} {cl : Nat} {A : List FiR} {r : FiR} {B : List FiR} (hok : StOk es cl (A ++ r :: B)) : ((A ++ r :: B).map FiR.n).Nodup ∧ r.n ∉ A.map FiR.n ∧ gOf (A ++ r :: B) r.n = (r.l, r.mark) := by
  have h1 := hok.map.keys
  rw [fps_keys] at h1
  have h2 : r.n ∉ A.map FiR.n := fun h => by
    rw [List.map_append, List.map_cons] at h1
    exact (List.nodup_cons.1 (List.perm_middle.nodup_iff.1 h1)).1 (List.mem_append_left _ h)
  refine ⟨h1, h2, ?_⟩
  rw [gOf_app _ _ _ h2]
  simp [gOf]
theorem append_st {sb : Nat} {S F : List (Nat × Obj)} {g : FG} {n : Int} {b : List UInt8} (h : StAt sb S g) (hbl : b.length ≤ 1048576) : Fn Try.prog 20 [fP sb, .int .i64 n, .string (bstr b)] (S ++ F) (fun r L' => r = .int .i64 (appE g n b) ∧ ∃ S', L' = S' ++ F ∧ StAt sb S' (appG g n b)) := by
  obtain ⟨mb, es, cl, rs, rfl, hok, rfl⟩ := h
  have same : ∃ S', (sO sb mb :: (mb, Obj.map es cl) :: ownL rs) ++ F = S' ++ F ∧ StAt sb S' (gOf rs) := ⟨_, rfl, mb, es, cl, rs, rfl, hok, rfl⟩
  by_cases hn : n < 0
  · refine (append_neg (R := ownL rs ++ F) hok.map ?_ hn).mono ?_
    · rcases aGet_fps rs n with ⟨h1, _⟩ | ⟨_, r, _, _, _, h1, _⟩
      · exact .inl h1
      · exact .inr ⟨_, h1⟩
    · rintro _ _ ⟨rfl, rfl⟩
      unfold appE appG
      rw [if_pos hn, if_pos hn]
      exact ⟨rfl, same⟩
  rcases aGet_fps rs n with ⟨h1, h2, h3⟩ | ⟨A, r, B, rfl, rfl, h1, h2, h3⟩
  · refine (append_new (R := ownL rs ++ F) hok.map h1 (by omega) hbl).permS (.refl _) ?_
    have hsm : ¬ 1048576 < (gOf rs n).1.length + b.length := by rw [h2]; simp; omega
    unfold appE appG
    rw [if_neg hn, if_neg hn, if_neg hsm, if_neg hsm, h2]
    rintro _ _ ⟨rfl, ⟨rfl, rfl⟩ | ⟨hne, es', cl', fb, v', T', hb, hmap, rfl⟩⟩
    · refine ⟨_, _, .refl _, .refl _, rfl, ?_⟩
      have : upG (gOf rs) n (([] : List UInt8) ++ [], 0) = gOf rs := by rw [List.append_nil, ← h2]; exact upG_self _ _
      rw [this]
      exact same
    · refine ⟨_, _, .refl _, ?_, rfl, sO sb mb :: (mb, .map es' cl') :: ownL (rs ++ [⟨n, fb, v', T', b, 0⟩]), rfl, mb, es', cl', _, rfl, ⟨?_, ?_⟩, ?_⟩
      · rw [ownL_app]
        refine .cons _ (.cons _ ?_)
        show ((ownL rs ++ (FiR.own ⟨n, fb, v', T', b, 0⟩ ++ [])) ++ F).Perm (FiR.own ⟨n, fb, v', T', b, 0⟩ ++ (ownL rs ++ F))
        rw [List.append_nil, List.append_assoc]
        exact List.perm_append_comm_assoc ..
      · rw [aPut_none h1] at hmap
        rw [fps_app]
        exact hmap
      · intro q hq
        rcases List.mem_append.1 hq with g | g
        · exact hok.ok q g
        · obtain rfl : q = _ := by simpa using g
          exact ⟨hb, Nat.zero_le _, hbl, hne⟩
      · rw [gOf_new (r := ⟨n, fb, v', T', b, 0⟩) h3]
        rfl
  · obtain ⟨hnd, hA, hg⟩ := st_some hok
    obtain ⟨hr, _⟩ := ok_of hok.ok rfl
    refine (append_old (R := ownL A ++ (ownL B ++ F)) (mark := r.mark) hok.map h1 hr.buf hr.ne (by omega) hr.size hbl).permS (st_open _ _ A r B F) ?_
    unfold appE appG
    rw [if_neg hn, if_neg hn, hg]
    rintro _ _ (⟨hbig, rfl, rfl⟩ | ⟨hsm, rfl, es', cl', v', T', hb, hmap, rfl⟩)
    · rw [if_pos hbig, if_pos hbig]
      exact ⟨_, _, .refl _, (st_open _ _ A r B F).symm, rfl, same⟩
    · rw [if_neg (Nat.not_lt.2 hsm), if_neg (Nat.not_lt.2 hsm)]
      have hput : aPut (fps (A ++ r :: B)) r.n (fP r.fb) = fps (A ++ r :: B) := by rw [aPut_fps hA]; simp [fps]
      rw [hput] at hmap
      obtain ⟨L2, L3, q1, q2, q3⟩ := st_set (sb := sb) (mb := mb) (F := F) (mark' := r.mark) hA hok.ok hb (by have := hr.mark; rw [List.length_append]; omega) (by rw [List.length_append]; omega) (by simp [hr.ne]) hmap
      exact ⟨L2, L3, q1, q2, rfl, q3⟩
theorem cut_st {sb : Nat} {S F : List (Nat × Obj)} {g : FG} {n many : Int} (h : StAt sb S g) : Fn Try.prog 18 [fP sb, .int .i64 n, .int .i64 many] (S ++ F) (fun r L' => r = .int .i64 (cutE g n many) ∧ ∃ S', L' = S' ++ F ∧ StAt sb S' (cutG g n many)) := by
  obtain ⟨mb, es, cl, rs, rfl, hok, rfl⟩ := h
  have same : ∃ S', (sO sb mb :: (mb, Obj.map es cl) :: ownL rs) ++ F = S' ++ F ∧ StAt sb S' (gOf rs) := ⟨_, rfl, mb, es, cl, rs, rfl, hok, rfl⟩
  rcases aGet_fps rs n with ⟨h1, h2, h3⟩ | ⟨A, r, B, rfl, rfl, h1, h2, h3⟩
  · refine (cut_none (R := ownL rs ++ F) hok.map h1).mono ?_
    rintro _ _ ⟨rfl, rfl⟩
    have e : cutE (gOf rs) n many = 10 := by unfold cutE; rw [h2]; rfl
    unfold cutG
    rw [e, if_neg (by decide)]
    exact ⟨rfl, same⟩
  · obtain ⟨hnd, hA, hg⟩ := st_some hok
    obtain ⟨hr, _⟩ := ok_of hok.ok rfl
    refine (cut_some (R := ownL A ++ (ownL B ++ F)) (mark := r.mark) hok.map h1 hr.buf).permS (st_open _ _ A r B F) ?_
    rintro _ _ (⟨hbad, rfl, rfl⟩ | ⟨k, rfl, hk, rfl, es', v', hb, hmap, rfl⟩)
    · have e : cutE (gOf (A ++ r :: B)) r.n many = 2 := by unfold cutE; rw [hg, if_neg hr.ne, if_pos hbad]
      unfold cutG
      rw [e, if_neg (by decide)]
      exact ⟨_, _, .refl _, (st_open _ _ A r B F).symm, rfl, same⟩
    · have e : cutE (gOf (A ++ r :: B)) r.n (k : Int) = 0 := by unfold cutE; rw [hg, if_neg hr.ne, if_neg (by dsimp only; omega)]
      unfold cutG
      rw [e, if_pos rfl, hg, Int.toNat_natCast]
      have hlen : (r.l.take k).length = k := by rw [List.length_take]; omega
      by_cases hk0 : k = 0
      · rw [if_pos hk0] at hmap
        subst hk0
        obtain ⟨L2, L3, q1, q2, q3⟩ := st_del (sb := sb) (mb := mb) (F := F) (q0 := fO r.fb v' 0) (T' := r.T) hnd hok.ok hmap
        exact ⟨L2, L3, q1, q2, rfl, q3⟩
      · rw [if_neg hk0] at hmap
        obtain ⟨L2, L3, q1, q2, q3⟩ := st_set (sb := sb) (mb := mb) (F := F) (mark' := k) hA hok.ok hb (by omega) (by have := hr.size; omega) (by intro h; rw [h] at hlen; simp at hlen; omega) hmap
        exact ⟨L2, L3, q1, q2, rfl, q3⟩
theorem sync_st {sb : Nat} {S F : List (Nat × Obj)} {g : FG} {n : Int} (h : StAt sb S g) : Fn Try.prog 17 [fP sb, .int .i64 n] (S ++ F) (fun r L' => r = .int .i64 (syncE g n) ∧ ∃ S', L' = S' ++ F ∧ StAt sb S' (syncG g n)) := by
  obtain ⟨mb, es, cl, rs, rfl, hok, rfl⟩ := h
  have same : ∃ S', (sO sb mb :: (mb, Obj.map es cl) :: ownL rs) ++ F = S' ++ F ∧ StAt sb S' (gOf rs) := ⟨_, rfl, mb, es, cl, rs, rfl, hok, rfl⟩
  rcases aGet_fps rs n with ⟨h1, h2, h3⟩ | ⟨A, r, B, rfl, rfl, h1, h2, h3⟩
  · refine (sync_none (R := ownL rs ++ F) hok.map h1).mono ?_
    rintro _ _ ⟨rfl, rfl⟩
    unfold syncE syncG
    rw [h2, if_pos rfl, if_pos rfl]
    exact ⟨rfl, same⟩
  · obtain ⟨hnd, hA, hg⟩ := st_some hok
    obtain ⟨hr, _⟩ := ok_of hok.ok rfl
    refine (sync_some (R := ownL A ++ (ownL B ++ F)) (mark := r.mark) hok.map h1 hr.buf hr.ne).permS (st_open _ _ A r B F) ?_
    rintro _ _ ⟨rfl, es', v', hb, hmap, rfl⟩
    unfold syncE syncG
    rw [hg, if_neg hr.ne, if_neg hr.ne]
    obtain ⟨L2, L3, q1, q2, q3⟩ := st_set (sb := sb) (mb := mb) (F := F) (mark' := r.l.length) hA hok.ok hb (Nat.le_refl _) hr.size hr.ne hmap
    exact ⟨L2, L3, q1, q2, rfl, q3⟩
theorem read_st {sb : Nat} {S F : List (Nat × Obj)} {g : FG} {n : Int} (h : StAt sb S g) : Fn Try.prog 11 [fP sb, .int .i64 n] (S ++ F) (fun r L' => r = .tuple #[.string (bstr (g n).1), .int .i64 (syncE g n)] ∧ L' = S ++ F) := by
  obtain ⟨mb, es, cl, rs, rfl, hok, rfl⟩ := h
  rcases aGet_fps rs n with ⟨h1, h2, h3⟩ | ⟨A, r, B, rfl, rfl, h1, h2, h3⟩
  · refine (read_none (R := ownL rs ++ F) hok.map h1).mono ?_
    rintro _ _ ⟨rfl, rfl⟩
    unfold syncE
    rw [h2, if_pos rfl]
    exact ⟨rfl, rfl⟩
  · obtain ⟨hnd, hA, hg⟩ := st_some hok
    obtain ⟨hr, _⟩ := ok_of hok.ok rfl
    refine (read_some (R := ownL A ++ (ownL B ++ F)) (mark := r.mark) hok.map h1 hr.buf).permS (st_open _ _ A r B F) ?_
    rintro _ _ ⟨rfl, rfl⟩
    unfold syncE
    rw [hg, if_neg hr.ne]
    exact ⟨_, _, .refl _, (st_open _ _ A r B F).symm, rfl, rfl⟩
theorem synced_st {sb : Nat} {S F : List (Nat × Obj)} {g : FG} {n : Int} (h : StAt sb S g) : Fn Try.prog 12 [fP sb, .int .i64 n] (S ++ F) (fun r L' => r = .int .i64 (g n).2 ∧ L' = S ++ F) := by
  obtain ⟨mb, es, cl, rs, rfl, hok, rfl⟩ := h
  rcases aGet_fps rs n with ⟨h1, h2, h3⟩ | ⟨A, r, B, rfl, rfl, h1, h2, h3⟩
  · refine (synced_none (R := ownL rs ++ F) hok.map h1).mono ?_
    rintro _ _ ⟨rfl, rfl⟩
    rw [h2]
    exact ⟨rfl, rfl⟩
  · obtain ⟨hnd, hA, hg⟩ := st_some hok
    refine (synced_some (R := r.T ++ (ownL A ++ (ownL B ++ F))) (mark := r.mark) (v := r.v) hok.map h1).permS (st_open _ _ A r B F) ?_
    rintro _ _ ⟨rfl, rfl⟩
    rw [hg]
    exact ⟨_, _, .refl _, (st_open _ _ A r B F).symm, rfl, rfl⟩
attribute [local irreducible] Fn WC WL WR OW Qt YieldFn QW
theorem remove_st {sb : Nat} {S F : List (Nat × Obj)} {g : FG} {n : Int} (h : StAt sb S g) : Fn Try.prog 19 [fP sb, .int .i64 n] (S ++ F) (fun r L' => r = .int .i64 (cutE g n 0) ∧ ∃ S', L' = S' ++ F ∧ StAt sb S' (cutG g n 0)) := by
  refine Fn_enter Try.func19 rfl Try.ntmps19 rfl fun gw => ?_
  repeat (first | ((first | refine WL_Q ?_); (first | refine QW_a ?_)) | ((first | refine WL_op rfl ?_); (first | (refine OW_call rfl (hF := cut_st h) (hk := ?_); rintro _ _ ⟨rfl, S', rfl, h'⟩))) | refine WL_nil ?_ | refine WC_seq ?_ | refine WC_ret ?_ | refine WC_region ?_)
  exact ⟨rfl, _, _, Res1 rfl (resV_tmp rfl), .refl _, rfl, S', rfl, h'⟩
end Go.Proofs.Ytmdiabglbmgkkaa
namespace Go.Proofs.Ytmdiabglbmgkkaa
open Go.RowKit
section
variable {c : Cx} {ops : Array Oper}
theorem WS_c {K : Exit → St → Prop} {Ls L0 : List (Nat × Obj)} {m i : Nat} {ms : List Nat} {fr : Bool} {p : Plan} {op : Op} {d ty : Nat} {pos : String} {aft : Array Edge} {s : List (Nat × Value)} {D : List Deferred} {L : List (Nat × Obj)} (ho : ops[i]? = some ⟨some d, op, ty, pos, aft, none⟩)
    (h : QW c s Ls ⟨some d, op, ty, pos, aft, none⟩ fun v => WS c ops K Ls L0 m ms fr p ⟨(d, v) :: s, D, L⟩) (hd : Nat.blt d c.N = true := by exact rfl) : WS c ops K Ls L0 m ms fr (.calm i p) ⟨s, D, L⟩ :=
  let ⟨v, h1, h2⟩ := h; ⟨_, v, Ls, ho, hd, .inl rfl, .inl ⟨h1, rfl⟩, h2⟩
theorem WS_r {K : Exit → St → Prop} {Ls L0 : List (Nat × Obj)} {m i : Nat} {ms : List Nat} {p : Plan} {op : Op} {d ty : Nat} {pos : String} {aft : Array Edge} {s : List (Nat × Value)} {D : List Deferred} {L : List (Nat × Obj)} (ho : ops[i]? = some ⟨some d, op, ty, pos, aft, none⟩) (ha : aheadOk ops ms m i = true)
    (h : QW c s L0 ⟨some d, op, ty, pos, aft, none⟩ fun v => WS c ops K Ls L0 m ms true p ⟨(d, v) :: s, D, L⟩) (hd : Nat.blt d c.N = true := by exact rfl) : WS c ops K Ls L0 m ms true (.calm i p) ⟨s, D, L⟩ :=
  let ⟨v, h1, h2⟩ := h; ⟨_, v, L0, ho, hd, .inr ⟨rfl, ha, rfl⟩, .inl ⟨h1, rfl⟩, h2⟩
theorem WS_m {K : Exit → St → Prop} {Ls L0 : List (Nat × Obj)} {m i : Nat} {ms : List Nat} {fr : Bool} {p : Plan} {σ : St} {o : Oper} (ho : ops[i]? = some o) (hg : o.guard = none) (h : OW c o (fun σ' => (∀ q ∈ Ls, q ∈ σ'.L) ∧ WS c ops K Ls L0 m ms false p σ') K σ) : WS c ops K Ls L0 m ms fr (.must i p) σ :=
  ⟨o, ho, .inl ⟨.inl hg, h.mono fun _ h' => ⟨fun _ => h'.1, h'.2⟩⟩⟩
theorem WS_d {K : Exit → St → Prop} {Ls L0 : List (Nat × Obj)} {m : Nat} {ms : List Nat} {fr : Bool} {σ : St} (h : K .normal σ) : WS c ops K Ls L0 m ms fr .done σ := h
end
end Go.Proofs.Ytmdiabglbmgkkaa
namespace Go.Proofs.Ytmdiabglbmgkkaa
open Go.RowKit
abbrev iV (x : Int) : Value := .int .i64 x
abbrev OwnI (cur : Array Value) (off cap : Nat) (xs : List Int) : Prop := Own 1 cur off cap xs.length (xs.map iV)
abbrev BufI (v : Value) (T : List (Nat × Obj)) (xs : List Int) : Prop := Buf 3 1 v T xs.length (xs.map iV)
theorem OwnI.at_i {cur : Array Value} {off cap : Nat} {xs : List Int} (h : OwnI cur off cap xs) {i : Int} {j : Nat} {x : Int} (hi : i.toNat = j) (hx : xs[j]? = some x) : cur[off + i.toNat * 1]? = some (iV x) := by
  rw [hi, Nat.mul_one]
  exact Own.at_ h j _ (by rw [List.getElem?_map, hx]; rfl)
theorem OwnI.lt {cur : Array Value} {off cap : Nat} {xs : List Int} (h : OwnI cur off cap xs) {i : Int} (hi : i.toNat < xs.length) : off + i.toNat * 1 < cur.size := by
  have := Own.fit h
  have := Own.le h
  omega
theorem OwnI.put {cur : Array Value} {off cap : Nat} {xs : List Int} (h : OwnI cur off cap xs) {i : Int} {j : Nat} (hi : i.toNat = j) (x : Int) : OwnI (cur.setIfInBounds (off + i.toNat * 1) (iV x)) off cap (xs.set j x) := by
  subst hi
  unfold OwnI
  rw [List.length_set]
  refine ⟨by simp, Own.le h, Own.max h, by rw [Array.size_setIfInBounds]; exact Own.fit h, fun k v hk => ?_⟩
  rw [List.getElem?_map, List.getElem?_set] at hk
  by_cases e : i.toNat = k
  · rw [if_pos e] at hk
    split at hk
    · rename_i hlt
      cases hk
      have hs := h.lt hlt
      rw [← e, Nat.mul_one] at *
      rw [Array.getElem?_setIfInBounds_self_of_lt hs]
    · cases hk
  · rw [if_neg e] at hk
    rw [Array.getElem?_setIfInBounds_ne (by omega)]
    exact Own.at_ h k v (by rw [List.getElem?_map]; exact hk)
theorem set_mid {A C : List Int} (x y : Int) : (A ++ x :: C).set A.length y = A ++ y :: C := by simp
theorem get_mid {A C : List Int} (x : Int) : (A ++ x :: C)[A.length]? = some x := by simp
def Rise (xs : List Int) : Prop := xs.Pairwise fun a b => a ≤ b
attribute [local irreducible] Fn WC WL WR OW Qt YieldFn QW
theorem isNaN_fn {x : Int} {L : List (Nat × Obj)} : Fn Try.prog 102 [iV x] L (fun v L' => v = .bool false ∧ L' = L) := by
  refine Fn_enter Try.func102 rfl Try.ntmps102 rfl fun gw => ?_
  have d : (x != x) = false := by simp
  repeat (first | ((first | refine WL_Q ?_); (first | refine QW_a ?_)) | refine WL_nil ?_ | refine WC_seq ?_ | refine WC_ret ?_ | refine WC_region ?_)
  exact ⟨rfl, _, _, Res1 rfl (resV_tmp rfl), .refl _, by rw [d], rfl⟩
theorem lessI_fn {x y : Int} {L : List (Nat × Obj)} : Fn Try.prog 92 [iV x, iV y] L (fun v L' => v = .bool (decide (x < y)) ∧ L' = L) := by
  refine Fn_enter Try.func92 rfl Try.ntmps92 rfl fun gw => ?_
  repeat (first | ((first | refine WL_Q ?_ | refine WL_Y ?_); (first | refine QW_a ?_)) | ((first | refine WL_op rfl ?_ | refine WL_yes (h := ?_)); (first | refine OW_callP rfl (hF := isNaN_fn) (hk := ?_))) | refine WL_nil ?_ | refine WL_un (h := ?_) | refine WL_N ?_ | refine WL_M ?_ | refine WC_seq ?_ | refine WC_ret ?_ | refine WC_region ?_)
  exact ⟨rfl, _, _, Res1 rfl (resV_tmp rfl), .refl _, rfl, rfl⟩
set_option maxHeartbeats 4000000 in
theorem insSort_fn {g E off cap : Nat} {cur : Array Value} {xs : List Int} (ho : OwnI cur off cap xs) (hn : xs.length ≤ 1000) {L : List (Nat × Obj)} :
    Fn Try.prog 86 [.slice (some ⟨g, off, none⟩) xs.length cap, iV 0, iV xs.length] ((g, .cells cur E (0, 0)) :: L)
      (fun v L' => v = .tuple #[] ∧ ∃ cur' ys, ys.Perm xs ∧ Rise ys ∧ OwnI cur' off cap ys ∧ L' = (g, .cells cur' E (0, 0)) :: L) := by
  refine Fn_enter Try.func86 rfl Try.ntmps86 rfl fun gw => ?_
  rcases xs with _ | ⟨x0, xs⟩
  · have d : decide (IntKind.i64.wrap (0 + 1) < ((([] : List Int).length : Nat) : Int)) = false := by decide
    repeat (first | ((first | refine WL_Q ?_); (first | refine QW_a ?_)) | refine WL_nil ?_ | refine WC_seq ?_ | refine WC_block ?_ | refine WC_cond_t (ht := ?_) | refine WC_cond_f (he := ?_) | refine WC_skip ?_ | refine WC_exit ?_ | refine WC_region (id := 0) ?_)
    refine WC_unroll 1 (WCn_s ?_)
    repeat (first | ((first | refine WL_Q ?_); (first | refine QW_a ?_)) | refine WL_nil ?_ | refine WC_seq ?_ | refine WC_block ?_ | refine WC_cond_t (ht := ?_) | refine WC_cond_f (he := ?_) | refine WC_skip ?_ | refine WC_exit ?_ | refine WC_region (id := 1) ?_)
    exact ⟨rfl, _, _, Res0 rfl, .refl _, rfl, cur, [], .refl _, .nil, ho, rfl⟩
  generalize hxs : x0 :: xs = zs at ho hn
  have h0 : 1 ≤ zs.length := by rw [← hxs]; simp
  repeat (first | ((first | refine WL_Q ?_); (first | refine QW_a ?_)) | refine WL_nil ?_ | refine WC_seq ?_ | refine WC_block ?_ | refine WC_cond_t (ht := ?_) | refine WC_cond_f (he := ?_) | refine WC_skip ?_ | refine WC_exit ?_ | refine WC_region (id := 0) ?_)
  refine WC_wk [(6, iV ((1 : Nat) : Int)), (0, .slice (some ⟨g, off, none⟩) zs.length cap), (1, iV 0), (2, iV zs.length)] ⟨rfl, rfl, rfl, rfl, trivial⟩ ?_
  refine WC_loop (fun m σ => ∃ (i : Nat) (P C : List Int) (cur : Array Value), m = zs.length - i ∧ P.length = i ∧ Rise P ∧ (P ++ C).Perm zs ∧ OwnI cur off cap (P ++ C) ∧ σ = ⟨[(6, iV i), (0, .slice (some ⟨g, off, none⟩) zs.length cap), (1, iV 0), (2, iV zs.length)], [], (g, .cells cur E (0, 0)) :: L⟩) (zs.length - 1) ⟨1, [x0], xs, cur, rfl, rfl, by simp [Rise], by rw [← hxs]; exact .refl _, by rw [← hxs] at ho; exact ho, rfl⟩ ?_
  clear ho cur hxs
  rintro m σ ⟨i, P, C, cur, rfl, hP, hrise, hperm, ho, rfl⟩
  have hlen : P.length + C.length = zs.length := by have := hperm.length_eq; simpa using this
  rcases C with _ | ⟨x, C⟩
  · have d : decide ((i : Int) < ((zs.length : Nat) : Int)) = false := decide_eq_false (by simp at hlen; omega)
    repeat (first | ((first | refine WL_Q ?_); (first | refine QW_a ?_)) | refine WL_nil ?_ | refine WC_seq ?_ | refine WC_block ?_ | refine WC_cond_t (ht := ?_) | refine WC_cond_f (he := ?_) | refine WC_skip ?_ | refine WC_exit ?_ | refine WC_region (id := 1) ?_)
    rw [List.append_nil] at hperm ho
    exact ⟨rfl, _, _, Res0 rfl, .refl _, rfl, cur, P, hperm, hrise, ho, rfl⟩
  · have hlt : i < zs.length := by simp at hlen; omega
    have d : decide ((i : Int) < ((zs.length : Nat) : Int)) = true := decide_eq_true (by omega)
    have wi : IntKind.i64.wrap ((i : Int) + 1) = ((i + 1 : Nat) : Int) := by rw [wI64 (by omega) (by omega)]; omega
    repeat (first | ((first | refine WL_Q ?_); (first | refine QW_a ?_)) | refine WL_nil ?_ | refine WC_seq ?_ | refine WC_block ?_ | refine WC_cond_t (ht := ?_) | refine WC_cond_f (he := ?_) | refine WC_skip ?_ | refine WC_exit ?_ | refine WC_region (id := 1) ?_ | refine WC_region (id := 3) ?_)
    refine WC_wk [(7, iV i), (6, iV i), (0, .slice (some ⟨g, off, none⟩) zs.length cap), (1, iV 0), (2, iV zs.length)] ⟨rfl, rfl, rfl, rfl, rfl, trivial⟩ ?_
    refine WC_loop (fun m σ => ∃ (j : Nat) (A B : List Int) (cur : Array Value), m = j ∧ A.length = j ∧ A.length + B.length = i ∧ Rise (A ++ B) ∧ (∀ b ∈ B, x < b) ∧ (A ++ x :: (B ++ C)).Perm zs ∧ OwnI cur off cap (A ++ x :: (B ++ C)) ∧ σ = ⟨[(7, iV j), (6, iV i), (0, .slice (some ⟨g, off, none⟩) zs.length cap), (1, iV 0), (2, iV zs.length)], [], (g, .cells cur E (0, 0)) :: L⟩) i ⟨i, P, [], cur, rfl, hP, by simpa using hP, by simpa using hrise, nofun, by simpa using hperm, by simpa using ho, rfl⟩ ?_
    clear ho cur hperm hrise hP hlen
    rintro m σ ⟨j, A, B, cur, rfl, hA, hAB, hrise, hB, hperm, ho, rfl⟩
    have hlen : A.length + (1 + (B.length + C.length)) = zs.length := by have := hperm.length_eq; simp at this; omega
    have hzl : (A ++ x :: (B ++ C)).length = zs.length := hperm.length_eq
    rcases List.eq_nil_or_concat A with rfl | ⟨A', a, rfl⟩
    · obtain rfl : m = 0 := by simpa using hA.symm
      have d1 : decide (((0 : Nat) : Int) > 0) = false := by decide
      repeat (first | ((first | refine WL_Q ?_ | refine WL_Y ?_ | refine WR_Q rfl ?_ | refine WR_late rfl rfl rfl (OW_Q ?_) | refine WR_Y rfl ?_); (first | refine QW_a ?_)) | ((first | refine WL_op rfl ?_ | refine WL_yes (h := ?_) | refine WR_late rfl rfl rfl ?_ | refine WR_opG rfl rfl ?_ | refine WR_opYG rfl (h := ?_)); (first | refine OW_callP rfl (hF := lessI_fn) (hk := ?_)); try refine ⟨(by first | exact fun _ h => h | exact sub_mem (by repeat (first | exact .refl _ | exact List.nil_sublist _ | exact List.sublist_append_right _ _ | exact List.Sublist.append (.refl _) (List.sublist_append_right _ _) | apply List.Sublist.cons_cons | apply List.Sublist.cons))), ?_⟩) | refine WL_nil ?_ | refine WL_un (h := ?_) | refine WL_N ?_ | refine WL_M ?_ | refine WR_nil ?_ | refine WR_un rfl (hk := ?_) | refine WR_N rfl ?_ | refine WR_M rfl ?_ | refine WC_seq ?_ | refine WC_block ?_ | refine WC_cond_t (ht := ?_) | refine WC_cond_f (he := ?_) | refine WC_skip ?_ | refine WC_exit ?_ | refine WC_draw_all (id := 4) 15 (.calm 0 <| .calm 1 <| .calm 2 <| .calm 3 <| .calm 4 <| .calm 5 <| .calm 6 <| .calm 7 <| .calm 8 <| .calm 9 <| .calm 10 <| .calm 11 <| .calm 12 <| .must 13 <| .calm 14 <| .done) mixed (by kernel_rfl) ?_ | refine WC_region (id := 2) ?_ | (refine WR_skN rfl (h := ?_)) | (refine WR_skM rfl (h := ?_)) | (refine WR_skU rfl (h := ?_)))
      rw [wi]
      refine ⟨_, _, by omega, ⟨i + 1, x :: B, C, cur, rfl, by simp at hAB ⊢; omega, ?_, by simpa using hperm, by simpa using ho, rfl⟩, ⟨rfl, rfl, rfl, rfl, trivial⟩, rfl, .refl _⟩
      exact List.pairwise_cons.2 ⟨fun b hb => Int.le_of_lt (hB b hb), by unfold Rise at hrise; simpa using hrise⟩
    · rw [List.concat_eq_append] at *
      obtain ⟨k, rfl⟩ : ∃ k, m = k + 1 := ⟨A'.length, by simpa using hA.symm⟩
      have hk : A'.length = k := by simpa using hA
      have d1 : decide (((k + 1 : Nat) : Int) > 0) = true := decide_eq_true (by omega)
      have wk : IntKind.i64.wrap (((k + 1 : Nat) : Int) - 1) = (k : Int) := by rw [wI64 (by omega) (by omega)]; omega
      have e1 : A' ++ [a] ++ x :: (B ++ C) = A' ++ a :: x :: (B ++ C) := by simp
      have j0 : (0 : Int) ≤ ((k + 1 : Nat) : Int) := by omega
      have j1 : ((k + 1 : Nat) : Int) < ((zs.length : Nat) : Int) := by simp at hlen; omega
      have j2 : (0 : Int) ≤ IntKind.i64.wrap (((k + 1 : Nat) : Int) - 1) := by rw [wk]; omega
      have j3 : IntKind.i64.wrap (((k + 1 : Nat) : Int) - 1) < ((zs.length : Nat) : Int) := by rw [wk]; simp at hlen; omega
      have c1 : cur[off + (((k + 1 : Nat) : Int)).toNat * 1]? = some (iV x) := ho.at_i (j := k + 1) (by omega) (by rw [← hA]; exact get_mid x)
      have c2 : cur[off + (IntKind.i64.wrap (((k + 1 : Nat) : Int) - 1)).toNat * 1]? = some (iV a) := ho.at_i (j := k) (by rw [wk]; omega) (by rw [e1, ← hk]; exact get_mid a)
      by_cases hxa : x < a
      · have d2 : decide (x < a) = true := decide_eq_true hxa
        have s1 : off + (((k + 1 : Nat) : Int)).toNat * 1 < cur.size := ho.lt (by rw [hzl]; omega)
        have s2 : off + (IntKind.i64.wrap (((k + 1 : Nat) : Int) - 1)).toNat * 1 < (cur.setIfInBounds (off + (((k + 1 : Nat) : Int)).toNat * 1) (iV a)).size := by rw [Array.size_setIfInBounds]; exact ho.lt (by rw [hzl, wk]; omega)
        have p1 := ho.put (i := ((k + 1 : Nat) : Int)) (j := k + 1) (by omega) a
        have p2 := p1.put (i := IntKind.i64.wrap (((k + 1 : Nat) : Int) - 1)) (j := k) (by rw [wk]; omega) x
        have e2 : ((A' ++ [a] ++ x :: (B ++ C)).set (k + 1) a).set k x = A' ++ x :: (a :: B ++ C) := by
          have q1 : (A' ++ [a] ++ x :: (B ++ C)).set (k + 1) a = A' ++ a :: a :: (B ++ C) := by rw [← hA, set_mid]; simp
          rw [q1, ← hk, set_mid]
          rfl
        rw [e2] at p2
        repeat (first | ((first | refine WL_Q ?_ | refine WL_Y ?_ | refine WR_Q rfl ?_ | refine WR_late rfl rfl rfl (OW_Q ?_) | refine WR_Y rfl ?_); (first | refine QW_a ?_)) | ((first | refine WL_op rfl ?_ | refine WL_yes (h := ?_) | refine WR_late rfl rfl rfl ?_ | refine WR_opG rfl rfl ?_ | refine WR_opYG rfl (h := ?_)); (first | refine OW_callP rfl (hF := lessI_fn) (hk := ?_)); try refine ⟨(by first | exact fun _ h => h | exact sub_mem (by repeat (first | exact .refl _ | exact List.nil_sublist _ | exact List.sublist_append_right _ _ | exact List.Sublist.append (.refl _) (List.sublist_append_right _ _) | apply List.Sublist.cons_cons | apply List.Sublist.cons))), ?_⟩) | refine WL_nil ?_ | refine WL_un (h := ?_) | refine WL_N ?_ | refine WL_M ?_ | refine WR_nil ?_ | refine WR_un rfl (hk := ?_) | refine WR_N rfl ?_ | refine WR_M rfl ?_ | refine WC_seq ?_ | refine WC_block ?_ | refine WC_cond_t (ht := ?_) | refine WC_cond_f (he := ?_) | refine WC_skip ?_ | refine WC_exit ?_ | refine WC_draw_all (id := 4) 15 (.calm 0 <| .calm 1 <| .calm 2 <| .calm 3 <| .calm 4 <| .calm 5 <| .calm 6 <| .calm 7 <| .calm 8 <| .calm 9 <| .calm 10 <| .calm 11 <| .calm 12 <| .must 13 <| .calm 14 <| .done) mixed (by kernel_rfl) ?_ | (refine WR_skN rfl (h := ?_)) | (refine WR_skM rfl (h := ?_)) | (refine WR_skU rfl (h := ?_)))
        refine WC_drawK (id := 6) [] 18 (.calm 0 <| .calm 1 <| .calm 2 <| .calm 3 <| .calm 4 <| .calm 5 <| .calm 6 <| .calm 7 <| .calm 8 <| .calm 9 <| .calm 10 <| .calm 11 <| .calm 12 <| .calm 13 <| .calm 14 <| .must 15 <| .calm 16 <| .must 17 <| .done) mixed (by kernel_rfl) (by kernel_rfl) (List.nil_sublist _) ?_; repeat (first | refine WS_d ?_ | refine WS_c rfl (QW_a ?_) | refine WS_r rfl (by kernel_rfl) (QW_a ?_) | (refine WS_m rfl rfl (OE ?_); refine ⟨(fun _ hq => nomatch hq), ?_⟩))
        repeat (first | ((first | refine WL_Q ?_); (first | refine QW_a ?_)) | refine WL_nil ?_ | refine WC_seq ?_ | refine WC_block ?_ | refine WC_cond_t (ht := ?_) | refine WC_cond_f (he := ?_) | refine WC_skip ?_ | refine WC_exit ?_ | refine WC_region (id := 5) ?_)
        rw [wk] at p2 ⊢
        refine ⟨_, _, by omega, ⟨k, A', a :: B, _, rfl, hk, by simp at hAB ⊢; omega, by simpa using hrise, ?_, ?_, p2, rfl⟩, ⟨rfl, rfl, rfl, rfl, rfl, trivial⟩, rfl, .refl _⟩
        · intro b hb
          rcases List.mem_cons.1 hb with rfl | hb
          · exact hxa
          · exact hB b hb
        · refine .trans ?_ hperm
          rw [List.append_assoc]
          exact .append_left _ (.swap ..)
      · have d2 : decide (x < a) = false := decide_eq_false hxa
        repeat (first | ((first | refine WL_Q ?_ | refine WL_Y ?_ | refine WR_Q rfl ?_ | refine WR_late rfl rfl rfl (OW_Q ?_) | refine WR_Y rfl ?_); (first | refine QW_a ?_)) | ((first | refine WL_op rfl ?_ | refine WL_yes (h := ?_) | refine WR_late rfl rfl rfl ?_ | refine WR_opG rfl rfl ?_ | refine WR_opYG rfl (h := ?_)); (first | refine OW_callP rfl (hF := lessI_fn) (hk := ?_)); try refine ⟨(by first | exact fun _ h => h | exact sub_mem (by repeat (first | exact .refl _ | exact List.nil_sublist _ | exact List.sublist_append_right _ _ | exact List.Sublist.append (.refl _) (List.sublist_append_right _ _) | apply List.Sublist.cons_cons | apply List.Sublist.cons))), ?_⟩) | refine WL_nil ?_ | refine WL_un (h := ?_) | refine WL_N ?_ | refine WL_M ?_ | refine WR_nil ?_ | refine WR_un rfl (hk := ?_) | refine WR_N rfl ?_ | refine WR_M rfl ?_ | refine WC_seq ?_ | refine WC_block ?_ | refine WC_cond_t (ht := ?_) | refine WC_cond_f (he := ?_) | refine WC_skip ?_ | refine WC_exit ?_ | refine WC_draw_all (id := 4) 15 (.calm 0 <| .calm 1 <| .calm 2 <| .calm 3 <| .calm 4 <| .calm 5 <| .calm 6 <| .calm 7 <| .calm 8 <| .calm 9 <| .calm 10 <| .calm 11 <| .calm 12 <| .must 13 <| .calm 14 <| .done) mixed (by kernel_rfl) ?_ | refine WC_region (id := 2) ?_ | (refine WR_skN rfl (h := ?_)) | (refine WR_skM rfl (h := ?_)) | (refine WR_skU rfl (h := ?_)))
        rw [wi]
        refine ⟨_, _, by omega, ⟨i + 1, A' ++ [a] ++ x :: B, C, cur, rfl, by simp at hAB ⊢; omega, ?_, by simpa using hperm, by simpa using ho, rfl⟩, ⟨rfl, rfl, rfl, rfl, trivial⟩, rfl, .refl _⟩
        have h3 := List.pairwise_append.1 hrise
        have h4 := List.pairwise_append.1 h3.1
        refine List.pairwise_append.2 ⟨h3.1, List.pairwise_cons.2 ⟨fun b hb => Int.le_of_lt (hB b hb), h3.2.1⟩, fun p hp q hq => ?_⟩
        rcases List.mem_cons.1 hq with rfl | hq
        · rcases List.mem_append.1 hp with g1 | g1
          · have := h4.2.2 p g1 a (by simp); omega
          · have : p = a := by simpa using g1
            omega
        · exact h3.2.2 p hp q hq
end Go.Proofs.Ytmdiabglbmgkkaa
namespace Go.Proofs.Ytmdiabglbmgkkaa
open Go.RowKit
attribute [local irreducible] Fn WC WL WR OW Qt YieldFn QW
theorem len64_few {n : Int} (h0 : 0 ≤ n) (hn : n ≤ 12) {L : List (Nat × Obj)} : Fn Try.prog 96 [.int .u64 n] L (fun v L' => (∃ k, v = .int .i64 k) ∧ L' = L) := by
  have hc : n = 0 ∨ n = 1 ∨ n = 2 ∨ n = 3 ∨ n = 4 ∨ n = 5 ∨ n = 6 ∨ n = 7 ∨ n = 8 ∨ n = 9 ∨ n = 10 ∨ n = 11 ∨ n = 12 := by omega
  rcases hc with rfl | rfl | rfl | rfl | rfl | rfl | rfl | rfl | rfl | rfl | rfl | rfl | rfl
  all_goals
    refine Fn_enter Try.func96 rfl Try.ntmps96 rfl fun gw => ?_
    repeat (first | ((first | refine WL_Q ?_); (first | refine QW_a ?_)) | refine WL_nil ?_ | refine WC_seq ?_ | refine WC_cond_t (ht := ?_) | refine WC_cond_f (he := ?_) | refine WC_skip ?_ | refine WC_ret ?_ | refine WC_region ?_)
    exact ⟨rfl, _, _, Res1 rfl (resV_tmp rfl), .refl _, ⟨_, rfl⟩, rfl⟩
theorem len_few {n : Int} (h0 : 0 ≤ n) (hn : n ≤ 12) {L : List (Nat × Obj)} : Fn Try.prog 85 [.int .u64 n] L (fun v L' => (∃ k, v = .int .i64 k) ∧ L' = L) := by
  refine Fn_enter Try.func85 rfl Try.ntmps85 rfl fun gw => ?_
  repeat (first | ((first | refine WL_Q ?_); (first | refine QW_a ?_)) | ((first | refine WL_op rfl ?_); (first | (refine OW_call rfl (hF := len64_few h0 hn) (hk := ?_); rintro _ _ ⟨⟨k, rfl⟩, rfl⟩))) | refine WL_nil ?_ | refine WC_seq ?_ | refine WC_cond_t (ht := ?_) | refine WC_cond_f (he := ?_) | refine WC_skip ?_ | refine WC_ret ?_ | refine WC_region (id := 0) ?_ | refine WC_region (id := 2) ?_)
  exact ⟨rfl, _, _, Res1 rfl (resV_tmp rfl), .refl _, ⟨_, rfl⟩, rfl⟩
theorem insNil_fn {L : List (Nat × Obj)} : Fn Try.prog 86 [.slice none 0 0, iV 0, iV 0] L (fun v L' => v = .tuple #[] ∧ L' = L) := by
  have d : decide (IntKind.i64.wrap (0 + 1) < 0) = false := by decide
  refine Fn_enter Try.func86 rfl Try.ntmps86 rfl fun gw => ?_
  repeat (first | ((first | refine WL_Q ?_); (first | refine QW_a ?_)) | refine WL_nil ?_ | refine WC_seq ?_ | refine WC_block ?_ | refine WC_cond_t (ht := ?_) | refine WC_cond_f (he := ?_) | refine WC_skip ?_ | refine WC_exit ?_ | refine WC_region (id := 0) ?_)
  refine WC_unroll 1 (WCn_s ?_)
  repeat (first | ((first | refine WL_Q ?_); (first | refine QW_a ?_)) | refine WL_nil ?_ | refine WC_seq ?_ | refine WC_block ?_ | refine WC_cond_t (ht := ?_) | refine WC_cond_f (he := ?_) | refine WC_skip ?_ | refine WC_exit ?_ | refine WC_region (id := 1) ?_)
  exact ⟨rfl, _, _, Res0 rfl, .refl _, rfl, rfl⟩
theorem insB_fn {v : Value} {T : List (Nat × Obj)} {xs : List Int} (hb : BufI v T xs) (hn : xs.length ≤ 1000) {L : List (Nat × Obj)} :
    Fn Try.prog 86 [v, iV 0, iV xs.length] (T ++ L) (fun r L' => ∃ T' ys, r = .tuple #[] ∧ ys.Perm xs ∧ Rise ys ∧ BufI v T' ys ∧ L' = T' ++ L) := by
  rcases id hb with ⟨h1, h2, rfl, rfl⟩ | ⟨g, off, cap, cur, rfl, rfl, ho⟩
  · have : xs = [] := List.eq_nil_of_length_eq_zero h2
    subst this
    refine (insNil_fn (L := L)).mono ?_
    rintro _ _ ⟨rfl, rfl⟩
    exact ⟨[], [], rfl, .refl _, .nil, hb, rfl⟩
  · refine (insSort_fn ho hn (L := L)).mono ?_
    rintro _ _ ⟨rfl, cur', ys, hp, hr, ho', rfl⟩
    refine ⟨[(g, .cells cur' 3 (0, 0))], ys, rfl, hp, hr, ?_, rfl⟩
    unfold BufI
    rw [← hp.length_eq]
    exact .inr ⟨g, off, cap, cur', rfl, rfl, ho'⟩
theorem pdqI_fn {v : Value} {T : List (Nat × Obj)} {xs : List Int} (hb : BufI v T xs) (hn : xs.length ≤ 12) {k : Int} {L : List (Nat × Obj)} :
    Fn Try.prog 84 [v, iV 0, iV xs.length, .int .i64 k] (T ++ L) (fun r L' => ∃ T' ys, r = .tuple #[] ∧ ys.Perm xs ∧ Rise ys ∧ BufI v T' ys ∧ L' = T' ++ L) := by
  have w : IntKind.i64.wrap (((xs.length : Nat) : Int) - 0) = ((xs.length : Nat) : Int) := by rw [wI64 (by omega) (by omega)]; omega
  have d : decide (((xs.length : Nat) : Int) ≤ 12) = true := decide_eq_true (by omega)
  refine Fn_enter Try.func84 rfl Try.ntmps84 rfl fun gw => ?_
  repeat (first | ((first | refine WL_Q ?_); (first | refine QW_a ?_)) | refine WL_nil ?_ | refine WC_seq ?_ | refine WC_block ?_ | refine WC_cond_t (ht := ?_) | refine WC_cond_f (he := ?_) | refine WC_skip ?_ | refine WC_ret ?_ | refine WC_exit ?_ | refine WC_region (id := 0) ?_ | refine WC_region (id := 1) ?_)
  refine WC_unroll 1 (WCn_s ?_)
  repeat (first | ((first | refine WL_Q ?_); (first | refine QW_a ?_)) | refine WL_nil ?_ | refine WC_seq ?_ | refine WC_block ?_ | refine WC_cond_t (ht := ?_) | refine WC_cond_f (he := ?_) | refine WC_skip ?_ | refine WC_ret ?_ | refine WC_exit ?_ | refine WC_region (id := 2) ?_)
  rw [w]
  repeat (first | ((first | refine WL_Q ?_); (first | refine QW_a ?_)) | ((first | refine WL_op rfl ?_); (first | (refine OW_call rfl (hF := insB_fn hb (by omega)) (hk := ?_); rintro _ _ ⟨T', ys, rfl, hp, hr, hb', rfl⟩))) | refine WL_nil ?_ | refine WC_seq ?_ | refine WC_block ?_ | refine WC_cond_t (ht := ?_) | refine WC_cond_f (he := ?_) | refine WC_skip ?_ | refine WC_ret ?_ | refine WC_exit ?_ | refine WC_region (id := 3) ?_ | refine WC_region (id := 4) ?_)
  exact ⟨rfl, _, _, Res0 rfl, .refl _, T', ys, rfl, hp, hr, hb', rfl⟩
theorem sortI_fn {v : Value} {T : List (Nat × Obj)} {xs : List Int} (hb : BufI v T xs) (hn : xs.length ≤ 12) {L : List (Nat × Obj)} :
    Fn Try.prog 71 [v] (T ++ L) (fun r L' => ∃ T' ys, r = .tuple #[] ∧ ys.Perm xs ∧ Rise ys ∧ BufI v T' ys ∧ L' = T' ++ L) := by
  have w : IntKind.u64.wrap ((xs.length : Nat) : Int) = ((xs.length : Nat) : Int) := by
    unfold IntKind.wrap
    simp [IntKind.signed, IntKind.bits]
    omega
  obtain ⟨a, cap, rfl, _, _⟩ := id hb.val
  refine Fn_enter Try.func71 rfl Try.ntmps71 rfl fun gw => ?_
  repeat (first | ((first | refine WL_Q ?_); (first | refine QW_a ?_)) | ((first | refine WL_op rfl ?_); (first | (refine OW_call rfl (hF := pdqI_fn hb hn) (hk := ?_); rintro _ _ ⟨T', ys, rfl, hp, hr, hb', rfl⟩) | (refine OW_call rfl (hF := len_few (by omega) (by omega)) (hk := ?_); rintro _ _ ⟨⟨k, rfl⟩, rfl⟩))) | refine WL_nil ?_ | refine WC_seq ?_ | refine WC_region ?_)
  rw [w]
  repeat (first | ((first | refine WL_Q ?_); (first | refine QW_a ?_)) | ((first | refine WL_op rfl ?_); (first | (refine OW_call rfl (hF := pdqI_fn hb hn) (hk := ?_); rintro _ _ ⟨T', ys, rfl, hp, hr, hb', rfl⟩) | (refine OW_call rfl (hF := len_few (by omega) (by omega)) (hk := ?_); rintro _ _ ⟨⟨k, rfl⟩, rfl⟩))) | refine WL_nil ?_ | refine WC_seq ?_ | refine WC_region (id := 1) ?_)
  exact ⟨rfl, _, _, Res0 rfl, .refl _, T', ys, rfl, hp, hr, hb', rfl⟩
end Go.Proofs.Ytmdiabglbmgkkaa
namespace Go.Proofs.Ytmdiabglbmgkkaa
open Go.RowKit
def SeqI (fv : Value) (S0 S : List (Nat × Obj)) (Out : List Int → Prop) : Prop := ∃ gf A B, fv = .func (.func gf) A B ∧ FCall Try.prog gf ∧ ∀ (l : Nat) (J : List Int → List (Nat × Obj) → Prop) (Jx : List (Nat × Obj) → Prop),
  (∀ L, J [] L → ∀ q ∈ S0, ∃ i : Nat, L[i]? = some q) → (∀ pre L, J pre L → ∀ q ∈ S, ∃ i : Nat, L[i]? = some q) →
  (∀ X pre y L, (∃ post, Out (pre ++ y :: post)) → J pre L → YieldFn Try.prog l [iV y] (L ++ X) (fun v L2 => (v = .bool true ∧ ∃ L3, L2 = L3 ++ X ∧ J (pre ++ [y]) L3) ∨ (v = .bool false ∧ Jx L2))) →
  ∀ L0, J [] L0 → Fn Try.prog gf (A.toList ++ [.func (.yield l) #[] #[]] ++ B.toList) L0 (fun _ L2 => (∃ xs, Out xs ∧ J xs L2) ∨ Jx L2)
theorem YieldFn.mono {P : Program} {l : Nat} {args : List Value} {L : List (Nat × Obj)} {R R' : Value → List (Nat × Obj) → Prop} (h : YieldFn P l args L R) (hr : ∀ v L', R v L' → R' v L') : YieldFn P l args L R' := fun g w n hm => by
  obtain ⟨fn, tmps, assign, body, h1, h2⟩ := h g w n hm
  exact ⟨fn, tmps, assign, body, h1, h2.mono fun e w' ⟨v, L', h3, h4, h5⟩ => ⟨v, L', h3, h4, hr v L' h5⟩⟩
theorem WL_permA {c : Cx} {ops : Array Oper} {l : List Oper} {K : Exit → St → Prop} {s : List (Nat × Value)} {D : List Deferred} {L L' : List (Nat × Obj)} (hp : L'.Perm L) (h : WL c ops l K ⟨s, D, L'⟩) : WL c ops l K ⟨s, D, L⟩ := fun a w ha => h a w (ha.mem' (ha.mem.perm hp))
theorem WC_permA {c : Cx} {code : Code} {K : Exit → St → Prop} {s : List (Nat × Value)} {D : List Deferred} {L L' : List (Nat × Obj)} (hp : L'.Perm L) (h : WC c code K ⟨s, D, L'⟩) : WC c code K ⟨s, D, L⟩ := fun a w ha => h a w (ha.mem' (ha.mem.perm hp))
theorem get_last {L : List (Nat × Obj)} {x : Nat × Obj} : (L ++ [x])[L.length]? = some x := by simp
theorem get_left {L X : List (Nat × Obj)} {i : Nat} {q : Nat × Obj} (h : L[i]? = some q) : (L ++ X)[i]? = some q := by
  rw [List.getElem?_append_left (List.getElem?_eq_some_iff.1 h).1]; exact h
theorem set_last {L : List (Nat × Obj)} {x y : Nat × Obj} : (L ++ [x]).set L.length y = L ++ [y] := by simp
attribute [local irreducible] Fn WC WL WR OW Qt YieldFn QW
abbrev keysBox (kb mb : Nat) : Nat × Obj := (kb, .cells #[.map (some mb)] 66 (0, 0))
theorem keys_fn {mb : Nat} {L : List (Nat × Obj)} : Fn Try.prog 60 [.map (some mb)] L (fun v L' => ∃ kb, v = .func (.func 72) #[] #[fP kb] ∧ L' = keysBox kb mb :: L) := by
  refine Fn_enter Try.func60 rfl Try.ntmps60 rfl fun gw => ?_
  repeat (first | ((first | refine WL_Q ?_); (first | refine QW_a ?_ | refine QW_of (Qt_entry rfl hiE hmE hmap hlast) ?_)) | ((first | refine WL_op rfl ?_); (first | refine OW_box rfl (hk := fun _ => ?_))) | refine WL_nil ?_ | refine WC_seq ?_ | refine WC_ret ?_ | refine WC_region ?_)
  exact ⟨rfl, _, _, Res1 rfl (resV_tmp rfl), .refl _, _, rfl, rfl⟩
set_option maxHeartbeats 4000000 in
theorem keys_ok {kb mb cl : Nat} {es : Array MapEntry} {ps : List (Int × Value)} (hmap : MapI .i64 es cl ps) : SeqI (.func (.func 72) #[] #[fP kb]) [] [keysBox kb mb, (mb, .map es cl)] (fun xs => xs.Perm (ps.map Prod.fst)) := by
  refine ⟨_, _, _, rfl, inferInstance, fun l J Jx _ hS hY L0 h0 => ?_⟩
  refine Fn_enter Try.func72 rfl Try.ntmps72 rfl fun gw => ?_
  obtain ⟨i1, hi1⟩ := hS [] L0 h0 (keysBox kb mb) (by simp)
  obtain ⟨i2, hi2⟩ := hS [] L0 h0 (mb, .map es cl) (by simp)
  repeat (first | ((first | refine WL_Q ?_); (first | refine QW_a ?_ | refine QW_of (Qt_entry rfl hiE hmE hmap hlast) ?_)) | refine WL_nil ?_ | refine WC_seq ?_ | refine WC_block ?_ | refine WC_cond_t (ht := ?_) | refine WC_cond_f (he := ?_) | refine WC_skip ?_ | refine WC_ret ?_ | refine WC_exit ?_ | refine WC_region (id := 0) ?_)
  refine WL_op rfl (OW_rangeMap rfl rfl hi2 hmap ?_)
  intro it hit
  refine WL_permA (L' := L0 ++ [(it, .mapIter (some mb) cl #[] cl)]) List.perm_append_comm ?_
  repeat (first | ((first | refine WL_Q ?_); (first | refine QW_a ?_ | refine QW_of (Qt_entry rfl hiE hmE hmap hlast) ?_)) | refine WL_nil ?_ | refine WC_seq ?_ | refine WC_block ?_ | refine WC_cond_t (ht := ?_) | refine WC_cond_f (he := ?_) | refine WC_skip ?_ | refine WC_ret ?_ | refine WC_exit ?_ | refine WC_region (id := 0) ?_)
  refine WC_wk [(5, fP it), (0, .func (.yield l) #[] #[])] ⟨rfl, rfl, trivial⟩ ?_
  refine WC_loop (fun m σ => ∃ (pre : List Int) (todo : List (Int × Value)) (seen : Array Nat) (L : List (Nat × Obj)), m = todo.length ∧ IterI .i64 es seen todo ∧ (pre ++ todo.map Prod.fst).Perm (ps.map Prod.fst) ∧ J pre L ∧ σ = ⟨[(5, fP it), (0, .func (.yield l) #[] #[])], [], L ++ [(it, .mapIter (some mb) cl seen cl)]⟩) ps.length ⟨[], ps, #[], L0, rfl, hit, .refl _, h0, rfl⟩ ?_
  rintro m σ ⟨pre, todo, seen, L, rfl, hit, hperm, hJ, rfl⟩
  obtain ⟨j2, hj2⟩ := hS pre L hJ (mb, .map es cl) (by simp)
  repeat (first | ((first | refine WL_Q ?_); (first | refine QW_a ?_ | refine QW_of (Qt_entry rfl hiE hmE hmap hlast) ?_)) | refine WL_nil ?_ | refine WC_seq ?_ | refine WC_block ?_ | refine WC_cond_t (ht := ?_) | refine WC_cond_f (he := ?_) | refine WC_skip ?_ | refine WC_ret ?_ | refine WC_exit ?_ | refine WC_region (id := 1) ?_)
  refine WL_op rfl (OW_nextMap rfl rfl get_last (get_left hj2) hmap hit ?_ ?_)
  · rintro rfl
    repeat (first | ((first | refine WL_Q ?_); (first | refine QW_a ?_ | refine QW_of (Qt_entry rfl hiE hmE hmap hlast) ?_)) | refine WL_nil ?_ | refine WC_seq ?_ | refine WC_block ?_ | refine WC_cond_t (ht := ?_) | refine WC_cond_f (he := ?_) | refine WC_skip ?_ | refine WC_ret ?_ | refine WC_exit ?_ | refine WC_region (id := 1) ?_)
    exact ⟨rfl, _, L, Res0 rfl, List.sublist_append_left _ _, .inl ⟨pre, by simpa using hperm, hJ⟩⟩
  · rintro A n v B seen' rfl hit' hlast
    rw [set_last]
    have hmE : (L ++ [(it, Obj.mapIter (some mb) cl seen' cl)])[j2]? = some (mb, .map es cl) := get_left hj2
    have hiE : (L ++ [(it, Obj.mapIter (some mb) cl seen' cl)])[L.length]? = some (it, .mapIter (some mb) cl seen' cl) := get_last
    have hperm' : ((pre ++ [n]) ++ (A ++ B).map Prod.fst).Perm (ps.map Prod.fst) := by
      refine .trans ?_ hperm
      rw [List.append_assoc]
      refine .append_left _ ?_
      rw [List.map_append, List.map_append, List.map_cons]
      exact (List.perm_middle (l₁ := A.map Prod.fst)).symm
    have hYf := hY [(it, .mapIter (some mb) cl seen' cl)] pre n L ⟨(A ++ B).map Prod.fst, by simpa using hperm'⟩ hJ
    repeat (first | ((first | refine WL_Q ?_); (first | refine QW_a ?_ | refine QW_of (Qt_entry rfl hiE hmE hmap hlast) ?_)) | refine WL_nil ?_ | refine WC_seq ?_ | refine WC_block ?_ | refine WC_cond_t (ht := ?_) | refine WC_cond_f (he := ?_) | refine WC_skip ?_ | refine WC_ret ?_ | refine WC_exit ?_ | refine WC_region (id := 1) ?_ | refine WC_region (id := 2) ?_ | refine WC_region (id := 3) ?_)
    refine WL_op rfl (OW_yield rfl rfl rfl rfl rfl hYf ?_)
    rintro v L2 (⟨rfl, L3, rfl, hJ3⟩ | ⟨rfl, hJx⟩)
    · repeat (first | ((first | refine WL_Q ?_); (first | refine QW_a ?_ | refine QW_of (Qt_entry rfl hiE hmE hmap hlast) ?_)) | refine WL_nil ?_ | refine WC_seq ?_ | refine WC_block ?_ | refine WC_cond_t (ht := ?_) | refine WC_cond_f (he := ?_) | refine WC_skip ?_ | refine WC_ret ?_ | refine WC_exit ?_ | refine WC_region (id := 3) ?_)
      exact ⟨_, _, by simp, ⟨pre ++ [n], A ++ B, seen', L3, rfl, hit', hperm', hJ3, rfl⟩, ⟨rfl, rfl, trivial⟩, rfl, .refl _⟩
    · repeat (first | ((first | refine WL_Q ?_); (first | refine QW_a ?_ | refine QW_of (Qt_entry rfl hiE hmE hmap hlast) ?_)) | refine WL_nil ?_ | refine WC_seq ?_ | refine WC_block ?_ | refine WC_cond_t (ht := ?_) | refine WC_cond_f (he := ?_) | refine WC_skip ?_ | refine WC_ret ?_ | refine WC_exit ?_ | refine WC_region (id := 3) ?_)
      exact ⟨rfl, _, _, Res0 rfl, .refl _, .inr hJx⟩
set_option maxHeartbeats 2000000 in
theorem appendSeqI_fn {fv : Value} {S0 S : List (Nat × Obj)} {Out : List Int → Prop} (hS : SeqI fv S0 S Out) (hn : ∀ xs, Out xs → xs.length ≤ 1000) (hex : ∃ xs, Out xs) {F : List (Nat × Obj)} (hF0 : ∀ q ∈ S0, ∃ i : Nat, F[i]? = some q) (hF : ∀ q ∈ S, ∃ i : Nat, F[i]? = some q) :
    Fn Try.prog 57 [.slice none 0 0, fv] F (fun v L' => ∃ xs T, Out xs ∧ BufI v T xs ∧ L' = T ++ F) := by
  obtain ⟨gf, A, B, rfl, hfc, hseq⟩ := hS
  refine Fn_enterM Try.func57 rfl Try.ntmps57 rfl fun gw => ?_
  repeat (first | ((first | refine WL_Q ?_); (first | refine QW_a ?_ | refine QW_of (Qt_entry rfl hiE hmE hmap hlast) ?_)) | ((first | refine WL_op rfl ?_); (first | refine OW_box rfl (hk := fun _ => ?_))) | refine WL_nil ?_ | refine WC_seq ?_ | refine WC_block ?_ | refine WC_ret ?_ | refine WC_region (id := 0) ?_ | refine WC_region (id := 1) ?_)
  rename_i x2
  refine WC_wk [(6, .func (.func gf) A B), (2, .pointer (some ⟨x2, 0, none⟩))] ⟨rfl, rfl, trivial⟩ ?_
  refine WC_rangeX rfl (fun m : Int => [iV m]) (fun _ => rfl) rfl (fun pre y => ∃ post, Out (pre ++ y :: post)) Out
    (fun pre L' => (∃ post, Out (pre ++ post)) ∧ ∃ v T, BufI v T pre ∧ L' = (x2, .cells #[v] 34 (0, 0)) :: (T ++ F))
    (fun _ _ => False) ?_ ?_ ?_ ?_
  · intro l d o1 o2 Jx hr
    obtain ⟨xs0, hxs0⟩ := hex
    refine (hseq l (fun pre L1 => ∃ L', L1 = (l, o1) :: (d, o2) :: L' ∧ (∃ post, Out (pre ++ post)) ∧ ∃ v T, BufI v T pre ∧ L' = (x2, .cells #[v] 34 (0, 0)) :: (T ++ F)) Jx ?_ ?_ ?_ _ ?_).mono ?_
    · rintro L ⟨L', rfl, _, v, T, _, rfl⟩ q hq
      obtain ⟨i, hi⟩ := hF0 q hq
      exact ⟨i + T.length + 3, by
        show (T ++ F)[i + T.length]? = _
        rw [List.getElem?_append_right (by omega), Nat.add_sub_cancel]; exact hi⟩
    · rintro pre L ⟨L', rfl, _, v, T, _, rfl⟩ q hq
      obtain ⟨i, hi⟩ := hF q hq
      exact ⟨i + T.length + 3, by
        show (T ++ F)[i + T.length]? = _
        rw [List.getElem?_append_right (by omega), Nat.add_sub_cancel]; exact hi⟩
    · rintro X pre y L hd ⟨L', rfl, hI⟩
      refine (hr X pre y L' hd hI).mono ?_
      rintro v L2 (⟨h1, L3, rfl, h3⟩ | h)
      · exact .inl ⟨h1, _, rfl, L3, rfl, h3⟩
      · exact .inr h
    · exact ⟨_, rfl, ⟨xs0, hxs0⟩, _, [], Buf.nil _ _, rfl⟩
    · rintro v L2 (⟨xs, hxs, L', h1, h2⟩ | h)
      · exact .inl ⟨xs, L', hxs, h1, h2⟩
      · exact .inr h
  · rintro X g' n' l d pre y L' ⟨post, hdom⟩ ⟨_, v, T, hb, rfl⟩ ol od hol
    have hlen := hn _ hdom
    rw [List.length_append] at hlen
    have hyc : v.oneCell' = true := by obtain ⟨_, _, rfl, _⟩ := hb.val; rfl
    repeat (first | ((first | refine WL_Q ?_); (first | refine QW_a ?_ | refine QW_of (Qt_entry rfl hiE hmE hmap hlast) ?_)) | refine WL_nil ?_ | refine WC_seq ?_ | refine WC_block ?_ | refine WC_ret ?_ | refine WC_region (id := 2) ?_)
    rename_i x5
    refine ⟨rfl, _, [], _, rfl, fun ol' hol' => ?_⟩
    simp only [List.nil_append, List.cons_append, List.append_assoc]
    repeat (first | ((first | refine WL_Q ?_); (first | refine QW_a ?_ | refine QW_of (Qt_entry rfl hiE hmE hmap hlast) ?_)) | ((first | refine WL_op rfl ?_); (first | refine OW_build1 rfl (hk := fun _ => ?_) | refine OW_st1 rfl ?_)) | refine WL_nil ?_ | refine WC_seq ?_ | refine WC_block ?_ | refine WC_ret ?_ | refine WC_region (id := 3) ?_)
    refine WL_op rfl (OW_append_buf (A := [_, (l, ol'), (d, od), (x2, _)]) (T := T) (B := F ++ X) rfl rfl rfl rfl rfl hb (src1 0 rfl) (by decide) (by simp only [maxLen]; omega) (by omega) ?_)
    intro v' T' hb'
    have hb2 : BufI v' T' (pre ++ [y]) := by
      unfold BufI
      rw [List.map_append, List.length_append]
      exact hb'
    obtain ⟨ag, cap, rfl, _, _⟩ := hb'.val
    simp only [List.cons_append, List.nil_append]
    repeat (first | ((first | refine WL_Q ?_); (first | refine QW_a ?_ | refine QW_of (Qt_entry rfl hiE hmE hmap hlast) ?_)) | ((first | refine WL_op rfl ?_); (first | refine OW_build1 rfl (hk := fun _ => ?_) | refine OW_st1 rfl ?_)) | refine WL_nil ?_ | refine WC_seq ?_ | refine WC_block ?_ | refine WC_ret ?_ | refine WC_region (id := 3) ?_)
    refine ⟨(x2, .cells #[_] 34 (0, 0)) :: (T' ++ (F ++ X)), .cons _ (.refl _), (x2, .cells #[_] 34 (0, 0)) :: (T' ++ F), by simp, ⟨post, by simpa using hdom⟩, _, T', hb2, rfl⟩
  · rintro d xs L' hout ⟨_, v, T, hb, rfl⟩
    have hyc : v.oneCell' = true := by obtain ⟨_, _, rfl, _⟩ := hb.val; rfl
    repeat (first | ((first | refine WL_Q ?_); (first | refine QW_a ?_ | refine QW_of (Qt_entry rfl hiE hmE hmap hlast) ?_)) | refine WL_nil ?_ | refine WC_seq ?_ | refine WC_block ?_ | refine WC_ret ?_ | refine WC_region (id := 4) ?_)
    exact ⟨_, ⟨d, 0, _, rfl, rfl, rfl, rfl⟩, _, _, Res1 rfl (resV_tmp rfl), .cons _ (.cons _ (.refl _)), xs, T, hout, hb, rfl⟩
  · intro _ _ _ h
    exact h.elim
theorem collectI_fn {fv : Value} {S0 S : List (Nat × Obj)} {Out : List Int → Prop} (hS : SeqI fv S0 S Out) (hn : ∀ xs, Out xs → xs.length ≤ 1000) (hex : ∃ xs, Out xs) {F : List (Nat × Obj)} (hF0 : ∀ q ∈ S0, ∃ i : Nat, F[i]? = some q) (hF : ∀ q ∈ S, ∃ i : Nat, F[i]? = some q) :
    Fn Try.prog 34 [fv] F (fun v L' => ∃ xs T, Out xs ∧ BufI v T xs ∧ L' = T ++ F) := by
  refine Fn_enter Try.func34 rfl Try.ntmps34 rfl fun gw => ?_
  repeat (first | ((first | refine WL_Q ?_); (first | refine QW_a ?_ | refine QW_of (Qt_entry rfl hiE hmE hmap hlast) ?_)) | ((first | refine WL_op rfl ?_); (first | (refine OW_call rfl (hF := appendSeqI_fn hS hn hex hF0 hF) (hk := ?_); rintro v _ ⟨xs, T, hout, hb, rfl⟩))) | refine WL_nil ?_ | refine WC_seq ?_ | refine WC_ret ?_ | refine WC_region ?_)
  exact ⟨rfl, _, _, Res1 rfl (resV_tmp rfl), .refl _, xs, T, hout, hb, rfl⟩
theorem sortedI_fn {fv : Value} {S0 S : List (Nat × Obj)} {Out : List Int → Prop} (hS : SeqI fv S0 S Out) (hn : ∀ xs, Out xs → xs.length ≤ 12) (hex : ∃ xs, Out xs) {F : List (Nat × Obj)} (hF0 : ∀ q ∈ S0, ∃ i : Nat, F[i]? = some q) (hF : ∀ q ∈ S, ∃ i : Nat, F[i]? = some q) :
    Fn Try.prog 59 [fv] F (fun v L' => ∃ xs ys T, Out xs ∧ ys.Perm xs ∧ Rise ys ∧ BufI v T ys ∧ L' = T ++ F) := by
  refine Fn_enter Try.func59 rfl Try.ntmps59 rfl fun gw => ?_
  repeat (first | ((first | refine WL_Q ?_); (first | refine QW_a ?_ | refine QW_of (Qt_entry rfl hiE hmE hmap hlast) ?_)) | ((first | refine WL_op rfl ?_); (first | (refine OW_call rfl (hF := collectI_fn hS (fun xs h => Nat.le_trans (hn xs h) (by decide)) hex hF0 hF) (hk := ?_); rintro v _ ⟨xs, T, hout, hb, rfl⟩) | (refine OW_call rfl (hF := sortI_fn hb (hn _ hout)) (hk := ?_); rintro _ _ ⟨T', ys, rfl, hp, hr, hb', rfl⟩))) | refine WL_nil ?_ | refine WC_seq ?_ | refine WC_ret ?_ | refine WC_region ?_)
  exact ⟨rfl, _, _, Res1 rfl (resV_tmp rfl), .refl _, xs, ys, T', hout, hp, hr, hb', rfl⟩
end Go.Proofs.Ytmdiabglbmgkkaa
namespace Go.Proofs.Ytmdiabglbmgkkaa
open Go.RowKit
theorem nodup_few : ∀ (k : Nat) (xs : List Int), xs.Nodup → (∀ x ∈ xs, 0 ≤ x ∧ x < k) → xs.length ≤ k
  | 0, [], _, _ => Nat.le_refl _
  | 0, x :: xs, _, h => by have := h x (List.mem_cons_self ..); omega
  | k + 1, xs, hn, h => by
    by_cases hk : (k : Int) ∈ xs
    · obtain ⟨A, B, rfl⟩ := List.append_of_mem hk
      have hn' := List.perm_middle.nodup_iff.1 hn
      obtain ⟨h1, h2⟩ := List.nodup_cons.1 hn'
      have ih := nodup_few k (A ++ B) h2 (fun x hx => by
        have hx' := h x (by rcases List.mem_append.1 hx with g | g <;> simp [g])
        have : x ≠ k := fun e => h1 (e ▸ hx)
        omega)
      simp at ih ⊢
      omega
    · have ih := nodup_few k xs hn (fun x hx => by
        have hx' := h x hx
        have : x ≠ k := fun e => hk (e ▸ hx)
        omega)
      omega
def insI (x : Int) : List Int → List Int
  | [] => [x]
  | y :: l => if x ≤ y then x :: y :: l else y :: insI x l
theorem insI_perm (x : Int) : ∀ l, (insI x l).Perm (x :: l)
  | [] => .refl _
  | y :: l => by
    unfold insI
    split
    · exact .refl _
    · exact .trans (.cons _ (insI_perm x l)) (.swap ..)
theorem insI_rise (x : Int) : ∀ l, Rise l → Rise (insI x l)
  | [], _ => by simp [insI, Rise]
  | y :: l, h => by
    obtain ⟨h1, h2⟩ := List.pairwise_cons.1 h
    unfold insI
    split
    · rename_i hxy
      refine List.pairwise_cons.2 ⟨fun z hz => ?_, h⟩
      rcases List.mem_cons.1 hz with rfl | hz
      · exact hxy
      · exact Int.le_trans hxy (h1 z hz)
    · rename_i hxy
      refine List.pairwise_cons.2 ⟨fun z hz => ?_, insI_rise x l h2⟩
      rcases List.mem_cons.1 ((insI_perm x l).mem_iff.1 hz) with rfl | hz
      · omega
      · exact h1 z hz
theorem sorted_ex : ∀ l : List Int, ∃ ys, ys.Perm l ∧ Rise ys
  | [] => ⟨[], .refl _, .nil⟩
  | x :: l => by
    obtain ⟨ys, h1, h2⟩ := sorted_ex l
    exact ⟨insI x ys, (insI_perm x ys).trans (.cons _ h1), insI_rise x ys h2⟩
attribute [local irreducible] Fn WC WL WR OW Qt YieldFn QW
abbrev sBox (xb sb : Nat) : Nat × Obj := (xb, .cells #[fP sb] 24 (0, 0))
theorem numbers_fn {sb : Nat} {L : List (Nat × Obj)} : Fn Try.prog 35 [fP sb] L (fun v L' => ∃ xb, v = .func (.func 58) #[] #[fP xb] ∧ L' = sBox xb sb :: L) := by
  refine Fn_enter Try.func35 rfl Try.ntmps35 rfl fun gw => ?_
  repeat (first | ((first | refine WL_Q ?_); (first | refine QW_a ?_)) | ((first | refine WL_op rfl ?_); (first | refine OW_box rfl (hk := fun _ => ?_))) | refine WL_nil ?_ | refine WC_seq ?_ | refine WC_ret ?_ | refine WC_region ?_)
  exact ⟨rfl, _, _, Res1 rfl (resV_tmp rfl), .refl _, _, rfl, rfl⟩
def KeysOut (ps : List (Int × Value)) (xs : List Int) : Prop := xs.Perm (ps.map Prod.fst) ∧ Rise xs
set_option maxHeartbeats 4000000 in
theorem numbers_ok {xb sb mb cl : Nat} {es : Array MapEntry} {ps : List (Int × Value)} (hmap : MapI .i64 es cl ps) (hn : ps.length ≤ 12) : SeqI (.func (.func 58) #[] #[fP xb]) [sBox xb sb, sO sb mb, (mb, .map es cl)] [] (KeysOut ps) := by
  refine ⟨_, _, _, rfl, inferInstance, fun l J Jx h0S _ hY L0 h0 => ?_⟩
  refine Fn_enter Try.func58 rfl Try.ntmps58 rfl fun gw => ?_
  obtain ⟨i1, hi1⟩ := h0S L0 h0 (sBox xb sb) (by simp)
  obtain ⟨i2, hi2⟩ := h0S L0 h0 (sO sb mb) (by simp)
  obtain ⟨i3, hi3⟩ := h0S L0 h0 (mb, .map es cl) (by simp)
  have hK : ∀ xs : List Int, xs.Perm (ps.map Prod.fst) → xs.length ≤ 12 := fun xs h => by rw [h.length_eq, List.length_map]; exact hn
  have hKS : ∀ kb, ∀ q ∈ [keysBox kb mb, (mb, Obj.map es cl)], ∃ i : Nat, (keysBox kb mb :: L0)[i]? = some q := fun kb q hq => by
    rcases List.mem_cons.1 hq with rfl | hq
    · exact ⟨0, rfl⟩
    · obtain rfl : q = _ := by simpa using hq
      exact ⟨i3 + 1, hi3⟩
  repeat (first | ((first | refine WL_Q ?_); (first | refine QW_a ?_)) | ((first | refine WL_op rfl ?_); (first | (refine OW_call rfl (hF := keys_fn) (hk := ?_); rintro _ _ ⟨kb, rfl, rfl⟩) | (refine OW_call rfl (hF := sortedI_fn (keys_ok (kb := kb) hmap) hK ⟨_, .refl _⟩ (by intro q hq; cases hq) (hKS kb)) (hk := ?_); rintro v _ ⟨xs, ys, T, hout, hp, hr, hb, rfl⟩))) | refine WL_nil ?_ | refine WC_seq ?_ | refine WC_block ?_ | refine WC_cond_t (ht := ?_) | refine WC_cond_f (he := ?_) | refine WC_skip ?_ | refine WC_ret ?_ | refine WC_exit ?_ | refine WC_region (id := 0) ?_ | refine WC_region (id := 1) ?_)
  have hO : KeysOut ps ys := ⟨hp.trans hout, hr⟩
  have hyl : ys.length ≤ 12 := hK ys hO.1
  obtain ⟨va, cap, rfl, _, _⟩ := id hb.val
  refine WL_permA (L' := keysBox kb mb :: (L0 ++ T)) (.trans (.cons _ List.perm_append_comm) (List.perm_middle (l₁ := T)).symm) ?_
  repeat (first | ((first | refine WL_Q ?_); (first | refine QW_a ?_)) | ((first | refine WL_op rfl ?_); (first | (refine OW_call rfl (hF := keys_fn) (hk := ?_); rintro _ _ ⟨kb, rfl, rfl⟩) | (refine OW_call rfl (hF := sortedI_fn (keys_ok (kb := kb) hmap) hK ⟨_, .refl _⟩ (by intro q hq; cases hq) (hKS kb)) (hk := ?_); rintro v _ ⟨xs, ys, T, hout, hp, hr, hb, rfl⟩))) | refine WL_nil ?_ | refine WC_seq ?_ | refine WC_block ?_ | refine WC_cond_t (ht := ?_) | refine WC_cond_f (he := ?_) | refine WC_skip ?_ | refine WC_ret ?_ | refine WC_exit ?_ | refine WC_region (id := 1) ?_)
  refine WC_wk [(14, .int .i64 ((0 : Nat) : Int)), (13, .int .i64 (ys.length : Nat)), (12, .slice va ys.length cap), (0, .func (.yield l) #[] #[])] ⟨rfl, rfl, rfl, rfl, trivial⟩ ?_
  refine WC_dropL (L0 ++ T) (.cons _ (.refl _)) ?_
  refine WC_loop (fun m σ => ∃ (i : Nat) (L : List (Nat × Obj)), m = ys.length - i ∧ i ≤ ys.length ∧ J (ys.take i) L ∧ σ = ⟨[(14, .int .i64 i), (13, .int .i64 (ys.length : Nat)), (12, .slice va ys.length cap), (0, .func (.yield l) #[] #[])], [], L ++ T⟩) ys.length ⟨0, L0, by omega, by omega, h0, rfl⟩ ?_
  rintro m σ ⟨i, L, rfl, hi, hJ, rfl⟩
  by_cases hlt : i < ys.length
  · have d2 : decide ((i : Int) < ((ys.length : Nat) : Int)) = true := decide_eq_true (by omega)
    obtain ⟨y, hy⟩ : ∃ y, ys[i]? = some y := ⟨_, List.getElem?_eq_getElem hlt⟩
    have p0 : (0 : Int) ≤ (i : Int) := by omega
    have p1 : ((i : Nat) : Int) < ((ys.length : Nat) : Int) := by omega
    have w : IntKind.i64.wrap ((i : Int) + 1) = ((i + 1 : Nat) : Int) := by rw [wI64 (by omega) (by omega)]; omega
    have htk : ys.take (i + 1) = ys.take i ++ [y] := by rw [List.take_add_one, hy]; rfl
    have hsplit : ys = ys.take i ++ y :: ys.drop (i + 1) := by
      obtain ⟨h1, h2⟩ := List.getElem?_eq_some_iff.1 hy
      rw [← h2, List.getElem_cons_drop, List.take_append_drop]
    rcases hb with ⟨h1, h2, _⟩ | ⟨g, off, cap', cur, e, rfl, ho⟩
    · omega
    · simp only [Value.slice.injEq] at e
      obtain ⟨rfl, _, rfl⟩ := e
      have hTi : (L ++ [(g, Obj.cells cur 3 (0, 0))])[L.length]? = some (g, .cells cur 3 (0, 0)) := get_last
      have c1 : cur[off + ((i : Nat) : Int).toNat * 1]? = some (iV y) := OwnI.at_i ho (Int.toNat_natCast i) hy
      have hYf := hY [(g, .cells cur 3 (0, 0))] (ys.take i) y L ⟨ys.drop (i + 1), by rw [← hsplit]; exact hO⟩ hJ
      repeat (first | ((first | refine WL_Q ?_); (first | refine QW_a ?_)) | refine WL_nil ?_ | refine WC_seq ?_ | refine WC_block ?_ | refine WC_cond_t (ht := ?_) | refine WC_cond_f (he := ?_) | refine WC_skip ?_ | refine WC_ret ?_ | refine WC_exit ?_ | refine WC_region (id := 2) ?_ | refine WC_region (id := 3) ?_ | refine WC_region (id := 4) ?_)
      refine WL_op rfl (OW_yield rfl rfl rfl rfl rfl hYf ?_)
      rintro v L2 (⟨rfl, L3, rfl, hJ3⟩ | ⟨rfl, hJx⟩)
      · repeat (first | ((first | refine WL_Q ?_); (first | refine QW_a ?_)) | refine WL_nil ?_ | refine WC_seq ?_ | refine WC_block ?_ | refine WC_cond_t (ht := ?_) | refine WC_cond_f (he := ?_) | refine WC_skip ?_ | refine WC_ret ?_ | refine WC_exit ?_ | refine WC_region (id := 4) ?_ | refine WC_region (id := 5) ?_)
        rw [w]
        exact ⟨_, _, by omega, ⟨i + 1, L3, rfl, by omega, by rw [htk]; exact hJ3, rfl⟩, ⟨rfl, rfl, rfl, rfl, trivial⟩, rfl, .refl _⟩
      · repeat (first | ((first | refine WL_Q ?_); (first | refine QW_a ?_)) | refine WL_nil ?_ | refine WC_seq ?_ | refine WC_block ?_ | refine WC_cond_t (ht := ?_) | refine WC_cond_f (he := ?_) | refine WC_skip ?_ | refine WC_ret ?_ | refine WC_exit ?_ | refine WC_region (id := 4) ?_)
        exact ⟨rfl, _, _, Res0 rfl, .refl _, .inr hJx⟩
  · obtain rfl : i = ys.length := by omega
    have d2 : decide (((ys.length : Nat) : Int) < ((ys.length : Nat) : Int)) = false := decide_eq_false (by omega)
    rw [List.take_length] at hJ
    repeat (first | ((first | refine WL_Q ?_); (first | refine QW_a ?_)) | refine WL_nil ?_ | refine WC_seq ?_ | refine WC_block ?_ | refine WC_cond_t (ht := ?_) | refine WC_cond_f (he := ?_) | refine WC_skip ?_ | refine WC_ret ?_ | refine WC_exit ?_ | refine WC_region (id := 2) ?_)
    exact ⟨rfl, _, L, Res0 rfl, List.sublist_append_left _ _, .inl ⟨ys, hO, hJ⟩⟩
theorem files_st {sb : Nat} {S F : List (Nat × Obj)} {g : FG} (h : StAt sb S g) (hfew : ∀ n, (g n).1 ≠ [] → 0 ≤ n ∧ n < 12) : Fn Try.prog 13 [fP sb] (S ++ F) (fun r L' => ∃ xs T, Rise xs ∧ xs.Nodup ∧ (∀ n, n ∈ xs ↔ (g n).1 ≠ []) ∧ BufI r T xs ∧ L' = T ++ (S ++ F)) := by
  obtain ⟨mb, es, cl, rs, rfl, hok, rfl⟩ := h
  have hkeys := hok.map.keys
  have hk2 : ∀ n, n ∈ (fps rs).map Prod.fst ↔ (gOf rs n).1 ≠ [] := fun n => by
    rw [fps_keys]
    constructor
    · intro hm
      obtain ⟨r, hr, rfl, e⟩ := gOf_mem hm
      rw [e]
      exact (hok.ok r hr).ne
    · intro hne
      rcases aGet_fps rs n with ⟨_, h2, _⟩ | ⟨A, r, B, rfl, rfl, _⟩
      · rw [h2] at hne; exact absurd rfl hne
      · simp
  have hl : (fps rs).length ≤ 12 := by
    have := nodup_few 12 _ hkeys (fun x hx => hfew x ((hk2 x).1 hx))
    rwa [List.length_map] at this
  have hK : ∀ xs, KeysOut (fps rs) xs → xs.length ≤ 1000 := fun xs h => by rw [h.1.length_eq, List.length_map]; omega
  have hE : ∃ xs, KeysOut (fps rs) xs := sorted_ex _
  have hS0 : ∀ xb, ∀ q ∈ [sBox xb sb, sO sb mb, (mb, Obj.map es cl)], ∃ i : Nat, (sBox xb sb :: ((sO sb mb :: (mb, Obj.map es cl) :: ownL rs) ++ F))[i]? = some q := fun xb q hq => by
    simp only [List.mem_cons, List.not_mem_nil, or_false] at hq
    rcases hq with rfl | rfl | rfl
    · exact ⟨0, rfl⟩
    · exact ⟨1, rfl⟩
    · exact ⟨2, rfl⟩
  refine Fn_enter Try.func13 rfl Try.ntmps13 rfl fun gw => ?_
  repeat (first | ((first | refine WL_Q ?_); (first | refine QW_a ?_)) | ((first | refine WL_op rfl ?_); (first | (refine OW_call rfl (hF := numbers_fn) (hk := ?_); rintro _ _ ⟨xb, rfl, rfl⟩) | (refine OW_call rfl (hF := collectI_fn (numbers_ok (xb := xb) (sb := sb) (mb := mb) hok.map hl) hK hE (hS0 xb) (by intro q hq; cases hq)) (hk := ?_); rintro v _ ⟨xs, T, hout, hb, rfl⟩))) | refine WL_nil ?_ | refine WC_seq ?_ | refine WC_ret ?_ | refine WC_region ?_)
  refine ⟨rfl, _, _, Res1 rfl (resV_tmp rfl), .append (.refl _) (.cons _ (.refl _)), xs, T, hout.2, hout.1.nodup_iff.2 hkeys, fun n => ?_, hb, rfl⟩
  rw [hout.1.mem_iff]
  exact hk2 n
end Go.Proofs.Ytmdiabglbmgkkaa
namespace Go.Proofs.Ytmdiabglbmgkkaa
open Go.RowKit
def crash1 (st : FG × List UInt8) (n : Int) : FG × List UInt8 :=
  match st.2 with
  | [] => (upG st.1 n ((st.1 n).1.take (st.1 n).2, (st.1 n).2), [])
  | c :: ch => if (st.1 n).2 < (st.1 n).1.length then (upG st.1 n ((st.1 n).1.take ((st.1 n).2 + c.toNat % ((st.1 n).1.length - (st.1 n).2 + 1)), (st.1 n).2 + c.toNat % ((st.1 n).1.length - (st.1 n).2 + 1)), ch) else (upG st.1 n ((st.1 n).1.take (st.1 n).2, (st.1 n).2), c :: ch)
def crashes (xs : List Int) (g : FG) (ch : List UInt8) : FG × List UInt8 := xs.foldl crash1 (g, ch)
theorem crash1_keep (st : FG × List UInt8) (n m : Int) (h : m ≠ n) : (crash1 st n).1 m = st.1 m := by
  unfold crash1
  split
  · simp [upG, h]
  · split <;> simp [upG, h]
theorem crashes_keep : ∀ (xs : List Int) (g : FG) (ch : List UInt8) (m : Int), m ∉ xs → (crashes xs g ch).1 m = g m
  | [], _, _, _, _ => rfl
  | x :: xs, g, ch, m, h => by
    simp only [List.mem_cons, not_or] at h
    show ((xs.foldl crash1 (crash1 (g, ch) x))).1 m = g m
    have := crashes_keep xs (crash1 (g, ch) x).1 (crash1 (g, ch) x).2 m h.2
    unfold crashes at this
    rw [this, crash1_keep _ _ _ h.1]
theorem crashes_snoc (xs : List Int) (y : Int) (g : FG) (ch : List UInt8) : crashes (xs ++ [y]) g ch = crash1 (crashes xs g ch) y := by simp [crashes]
def StAtF (sb : Nat) (S : List (Nat × Obj)) (g : FG) (n : Int) (r : FiR) (A B : List FiR) : Prop := ∃ mb es cl, S = sO sb mb :: (mb, .map es cl) :: ownL (A ++ r :: B) ∧ StOk es cl (A ++ r :: B) ∧ gOf (A ++ r :: B) = g ∧ r.n = n
theorem StAt.file {sb : Nat} {S : List (Nat × Obj)} {g : FG} {n : Int} (h : StAt sb S g) (hn : (g n).1 ≠ []) : ∃ r A B, StAtF sb S g n r A B := by
  obtain ⟨mb, es, cl, rs, rfl, hok, rfl⟩ := h
  rcases aGet_fps rs n with ⟨_, h2, _⟩ | ⟨A, r, B, rfl, rfl, _⟩
  · rw [h2] at hn; exact absurd rfl hn
  · exact ⟨r, A, B, mb, es, cl, rfl, hok, rfl, rfl⟩
theorem stay_st {sb : Nat} {S F : List (Nat × Obj)} {g : FG} {n : Int} {r : FiR} {A B : List FiR} (h : StAtF sb S g n r A B) {many : Nat} (hm : many ≤ (g n).1.length) :
    Fn Try.prog 42 [fP sb, .int .i64 n, fP r.fb, .int .i64 (many : Nat)] (S ++ F) (fun v L' => v = .tuple #[] ∧ ∃ S', L' = S' ++ F ∧ StAt sb S' (upG g n ((g n).1.take many, many))) := by
  obtain ⟨mb, es, cl, rfl, hok, rfl, rfl⟩ := h
  obtain ⟨hnd, hA, hg⟩ := st_some hok
  obtain ⟨hr, _⟩ := ok_of hok.ok rfl
  rw [hg] at hm ⊢
  refine (stay_raw (R := ownL A ++ (ownL B ++ F)) (mark := r.mark) (n := r.n) hok.map hr.buf hm).permS (st_open _ _ A r B F) ?_
  rintro _ _ ⟨rfl, es', v', hb, hmap, rfl⟩
  dsimp only at hm
  have hlen : (r.l.take many).length = many := by rw [List.length_take]; omega
  by_cases hk0 : many = 0
  · rw [if_pos hk0] at hmap
    subst hk0
    obtain ⟨L2, L3, q1, q2, q3⟩ := st_del (sb := sb) (mb := mb) (F := F) (q0 := fO r.fb v' 0) (T' := r.T) hnd hok.ok hmap
    exact ⟨L2, L3, q1, q2, rfl, q3⟩
  · rw [if_neg hk0] at hmap
    obtain ⟨L2, L3, q1, q2, q3⟩ := st_set (sb := sb) (mb := mb) (F := F) (mark' := many) hA hok.ok hb (by omega) (by have := hr.size; omega) (by intro h; rw [h] at hlen; simp at hlen; omega) hmap
    exact ⟨L2, L3, q1, q2, rfl, q3⟩
theorem ByAt.tail {L : List (Nat × Obj)} {g off cap : Nat} {u : UInt8} {l : List UInt8} (h : ByAt L (.slice (some ⟨g, off, none⟩) (l.length + 1) cap) (u :: l)) : ByAt L (.slice (some ⟨g, slOff cap 1 off 1, none⟩) l.length (cap - 1)) l := by
  obtain ⟨h1, a, c', e, h2, h3, h4⟩ := h
  simp only [Value.slice.injEq] at e
  obtain ⟨rfl, _, rfl⟩ := e
  rw [List.length_cons] at h2
  refine ⟨by simp, some ⟨g, slOff cap 1 off 1, none⟩, cap - 1, rfl, by omega, by omega, ?_⟩
  rcases h4 with h4 | ⟨g', off', cur, E, fr, i, e, hi, hc⟩
  · simp at h4
  · cases e
    rcases Nat.eq_zero_or_pos l.length with h0 | h0
    · exact .inl h0
    · refine .inr ⟨g, _, cur, E, fr, i, rfl, hi, fun j x hx => ?_⟩
      have e : slOff cap 1 off 1 = off + 1 := by unfold slOff; rw [if_neg (by omega), Nat.mul_one]
      rw [e, Nat.add_assoc, Nat.add_comm 1 j]
      exact hc (j + 1) x (by simpa using hx)
theorem ByAt.head {L : List (Nat × Obj)} {v : Value} {u : UInt8} {l : List UInt8} (h : ByAt L v (u :: l)) : ∃ (g off cap : Nat) (cur : Array Value) (E : TypeId) (fr : Nat × Nat) (i : Nat), v = .slice (some ⟨g, off, none⟩) (l.length + 1) cap ∧ l.length + 1 ≤ cap ∧ L[i]? = some (g, Obj.cells cur E fr) ∧ cur[off]? = some (bV u) := by
  obtain ⟨h1, a, c', rfl, h2, h3, h4⟩ := h
  rcases h4 with h4 | ⟨g', off', cur, E, fr, i, rfl, hi, hc⟩
  · simp at h4
  · exact ⟨g', off', c', cur, E, fr, i, rfl, h2, hi, hc 0 (bV u) rfl⟩
attribute [local irreducible] Fn WC WL WR OW Qt YieldFn QW
theorem bare_fn {i fb mark : Nat} {v : Value} {T : List (Nat × Obj)} {l : List UInt8} {L : List (Nat × Obj)} (hi : L[i]? = some (fO fb v mark)) (hb : BufB v T l) (hm : mark ≤ l.length) : Fn Try.prog 44 [fP fb] L (fun r L' => (∃ a c, r = .slice a (l.length - mark) c) ∧ L' = L) := by
  obtain ⟨a, cap, rfl, hle, _⟩ := hb.val
  refine Fn_enter Try.func44 rfl Try.ntmps44 rfl fun gw => ?_
  repeat (first | ((first | refine WL_Q ?_ | refine WR_Q rfl ?_ | refine WR_late rfl rfl rfl (OW_Q ?_)); (first | refine QW_a ?_ | refine QW_of (Qt_sl3 rfl) ?_ | refine QW_of (Qt_lookup rfl hmi hok'.map.ents) ?_)) | refine WL_nil ?_ | refine WR_nil ?_ | refine WC_seq ?_ | refine WC_ret ?_ | refine WC_draw_all (id := 1) 20 (.calm 0 <| .calm 1 <| .calm 2 <| .calm 3 <| .calm 4 <| .calm 5 <| .calm 6 <| .calm 7 <| .calm 8 <| .calm 9 <| .calm 10 <| .calm 11 <| .calm 12 <| .calm 13 <| .calm 14 <| .calm 15 <| .calm 16 <| .calm 17 <| .calm 18 <| .calm 19 <| .done) mixed (by kernel_rfl) ?_ | refine WC_region ?_)
  exact ⟨rfl, _, _, Res1 rfl (resV_tmp rfl), .refl _, ⟨_, _, rfl⟩, rfl⟩
theorem few_keys {g : FG} {rs : List FiR} {es : Array MapEntry} {cl : Nat} (hok : StOk es cl rs) (hg : gOf rs = g) (hfew : ∀ n, (g n).1 ≠ [] → 0 ≤ n ∧ n < 12) : ((fps rs).length ≤ 12) ∧ ((fps rs).map Prod.fst).Nodup ∧ ∀ n, n ∈ (fps rs).map Prod.fst ↔ (g n).1 ≠ [] := by
  subst hg
  have hkeys := hok.map.keys
  have hk2 : ∀ n, n ∈ (fps rs).map Prod.fst ↔ (gOf rs n).1 ≠ [] := fun n => by
    rw [fps_keys]
    constructor
    · intro hm
      obtain ⟨r, hr, rfl, e⟩ := gOf_mem hm
      rw [e]
      exact (hok.ok r hr).ne
    · intro hne
      rcases aGet_fps rs n with ⟨_, h2, _⟩ | ⟨A, r, B, rfl, rfl, _⟩
      · rw [h2] at hne; exact absurd rfl hne
      · simp
  refine ⟨?_, hkeys, hk2⟩
  have := nodup_few 12 _ hkeys (fun x hx => hfew x ((hk2 x).1 hx))
  rwa [List.length_map] at this
abbrev chBox (cb : Nat) (v : Value) : Nat × Obj := (cb, .cells #[v] 44 (0, 0))
set_option maxHeartbeats 8000000 in
theorem crash_st {sb : Nat} {S F : List (Nat × Obj)} {g : FG} {chv : Value} {ch : List UInt8} (h : StAt sb S g) (hfew : ∀ n, (g n).1 ≠ [] → 0 ≤ n ∧ n < 12) (hch : ByAt F chv ch) :
    Fn Try.prog 23 [fP sb, chv] (S ++ F) (fun v L' => v = .tuple #[] ∧ ∃ xs S', Rise xs ∧ xs.Nodup ∧ (∀ n, n ∈ xs ↔ (g n).1 ≠ []) ∧ L' = S' ++ F ∧ StAt sb S' (crashes xs g ch).1) := by
  obtain ⟨mb, es, cl, rs, rfl, hok, hgo⟩ := id h
  obtain ⟨hl, hkeys, hk2⟩ := few_keys hok hgo hfew
  obtain ⟨_, ac, cc, rfl, _, _, _⟩ := id hch
  refine Fn_enterM Try.func23 rfl Try.ntmps23 rfl fun gw => ?_
  repeat (first | ((first | refine WL_Q ?_); (first | refine QW_a ?_ | refine QW_of (Qt_sl3 rfl) ?_ | refine QW_of (Qt_lookup rfl hmi hok'.map.ents) ?_)) | ((first | refine WL_op rfl ?_); (first | refine OW_box rfl (hk := fun _ => ?_) | (refine OW_call rfl (hF := numbers_fn) (hk := ?_); rintro _ _ ⟨xb, rfl, rfl⟩))) | refine WL_nil ?_ | refine WC_seq ?_ | refine WC_block ?_ | refine WC_cond_t (ht := ?_) | refine WC_cond_f (he := ?_) | refine WC_skip ?_ | refine WC_region (id := 0) ?_ | refine WC_region (id := 1) ?_)
  rename_i x2 x3
  refine WC_wk [(9, .func (.func 58) #[] #[fP xb]), (2, fP x2), (3, fP x3)] ⟨rfl, rfl, rfl, trivial⟩ ?_
  refine WC_rangeX rfl (fun m : Int => [iV m]) (fun _ => rfl) rfl (fun pre y => ∃ post, KeysOut (fps rs) (pre ++ y :: post)) (KeysOut (fps rs))
    (fun pre L' => ∃ S' v, (pre = [] → S' = sO sb mb :: (mb, Obj.map es cl) :: ownL rs) ∧ StAt sb S' (crashes pre g ch).1 ∧ ByAt F v (crashes pre g ch).2 ∧ L' = sBox xb sb :: chBox x3 v :: sBox x2 sb :: (S' ++ F))
    (fun _ _ => False) ?_ ?_ ?_ ?_
  · intro l d o1 o2 Jx hr
    obtain ⟨_, _, _, e, _, hseq⟩ := numbers_ok (xb := xb) (sb := sb) (mb := mb) hok.map hl
    cases e
    refine (hseq l (fun pre L1 => ∃ L', L1 = (l, o1) :: (d, o2) :: L' ∧ ∃ S' v, (pre = [] → S' = sO sb mb :: (mb, Obj.map es cl) :: ownL rs) ∧ StAt sb S' (crashes pre g ch).1 ∧ ByAt F v (crashes pre g ch).2 ∧ L' = sBox xb sb :: chBox x3 v :: sBox x2 sb :: (S' ++ F)) Jx ?_ ?_ ?_ _ ?_).mono ?_
    · rintro L ⟨L', rfl, S', v, hS', _, _, rfl⟩ q hq
      rw [hS' rfl]
      simp only [List.mem_cons, List.not_mem_nil, or_false] at hq
      rcases hq with rfl | rfl | rfl
      · exact ⟨2, rfl⟩
      · exact ⟨5, rfl⟩
      · exact ⟨6, rfl⟩
    · intro _ _ _ q hq; cases hq
    · rintro X pre y L hd ⟨L', rfl, hI⟩
      refine (hr X pre y L' hd hI).mono ?_
      rintro v L2 (⟨h1, L3, rfl, h3⟩ | h)
      · exact .inl ⟨h1, _, rfl, L3, rfl, h3⟩
      · exact .inr h
    · exact ⟨_, rfl, _, _, fun _ => rfl, h, hch, rfl⟩
    · rintro v L2 (⟨xs, hxs, L', h1, h2⟩ | h)
      · exact .inl ⟨xs, L', hxs, h1, h2⟩
      · exact .inr h
  · rintro X g' n' l d pre y L' ⟨post, hdom⟩ ⟨S', v, _, hS', hv, rfl⟩ ol od hol
    repeat (first | ((first | refine WL_Q ?_); (first | refine QW_a ?_ | refine QW_of (Qt_sl3 rfl) ?_ | refine QW_of (Qt_lookup rfl hmi hok'.map.ents) ?_)) | refine WL_nil ?_ | refine WC_seq ?_ | refine WC_block ?_ | refine WC_cond_t (ht := ?_) | refine WC_cond_f (he := ?_) | refine WC_skip ?_ | refine WC_region (id := 2) ?_)
    refine ⟨rfl, _, [], _, rfl, fun ol' hol' => ?_⟩
    have hy : y ∈ (fps rs).map Prod.fst := hdom.1.mem_iff.1 (by simp)
    have hyp : y ∉ pre := by
      have hn := hdom.1.nodup_iff.2 hkeys
      rw [List.nodup_append] at hn
      exact fun hm => hn.2.2 y hm y (List.mem_cons_self ..) rfl
    have hgy := crashes_keep pre g ch y hyp
    rw [crashes_snoc]
    have hgne : ((crashes pre g ch).1 y).1 ≠ [] := by rw [hgy]; exact (hk2 y).1 hy
    generalize crashes pre g ch = st at hS' hv hgne ⊢
    obtain ⟨gg, cch⟩ := st
    dsimp only at hS' hv hgne ⊢
    obtain ⟨r, A, B, hF⟩ := hS'.file hgne
    obtain ⟨mb', es', cl', rfl, hok', hgo', rfl⟩ := id hF
    obtain ⟨hnd, hA, hgr⟩ := st_some hok'
    rw [hgo'] at hgr
    obtain ⟨hr, _⟩ := ok_of hok'.ok rfl
    simp only [List.nil_append, List.cons_append, List.append_assoc]
    obtain ⟨_, va, vc, rfl, hvl, hvm, _⟩ := id hv
    have hm1 := hr.mark
    have hm2 := hr.size
    have hget : aGet (fps (A ++ r :: B)) r.n = some (fP r.fb) := by
      have := aPut_fps (B := B) (v := fP r.fb) hA
      have e : aGet (aPut (fps (A ++ r :: B)) r.n (fP r.fb)) r.n = some (fP r.fb) := by rw [aGet_put, if_pos rfl]
      rwa [this, show fps A ++ (r.n, fP r.fb) :: fps B = fps (A ++ r :: B) by simp [fps]] at e
    have hmi : ((l, ol') :: (d, od) :: sBox xb sb :: chBox x3 (.slice va cch.length vc) :: sBox x2 sb :: sO sb mb' :: (mb', Obj.map es' cl') :: (ownL (A ++ r :: B) ++ (F ++ X)))[6]? = some (mb', .map es' cl') := rfl
    have hfi : ((l, ol') :: (d, od) :: sBox xb sb :: chBox x3 (.slice va cch.length vc) :: sBox x2 sb :: sO sb mb' :: (mb', Obj.map es' cl') :: (ownL (A ++ r :: B) ++ (F ++ X)))[(ownL A).length + 7]? = some (fO r.fb r.v r.mark) := by
      show (ownL (A ++ r :: B) ++ (F ++ X))[(ownL A).length]? = _
      rw [ownL_app, ownL_cons, List.append_assoc, List.append_assoc, List.getElem?_append_right (Nat.le_refl _), Nat.sub_self]
      rfl
    repeat (first | ((first | refine WL_Q ?_); (first | refine QW_a ?_ | refine QW_of (Qt_sl3 rfl) ?_ | refine QW_of (Qt_lookup rfl hmi hok'.map.ents) ?_)) | refine WL_nil ?_ | refine WC_seq ?_ | refine WC_block ?_ | refine WC_cond_t (ht := ?_) | refine WC_cond_f (he := ?_) | refine WC_skip ?_ | refine WC_region (id := 3) ?_)
    rw [hget]
    repeat (first | ((first | refine WL_Q ?_); (first | refine QW_a ?_ | refine QW_of (Qt_sl3 rfl) ?_ | refine QW_of (Qt_lookup rfl hmi hok'.map.ents) ?_)) | ((first | refine WL_op rfl ?_); (first | (refine OW_call rfl (hF := bare_fn hfi hr.buf hr.mark) (hk := ?_); rintro _ _ ⟨⟨ab, cb, rfl⟩, rfl⟩))) | refine WL_nil ?_ | refine WC_seq ?_ | refine WC_block ?_ | refine WC_cond_t (ht := ?_) | refine WC_cond_f (he := ?_) | refine WC_skip ?_ | refine WC_region (id := 3) ?_ | refine WC_region (id := 4) ?_ | refine WC_region (id := 5) ?_)
    refine WC_wk [(7, .int .i64 ((r.l.length - r.mark : Nat))), (6, .int .i64 r.mark), (5, fP r.fb), (4, iV r.n), (3, fP x3), (2, fP x2)] ⟨rfl, rfl, rfl, rfl, rfl, rfl, trivial⟩ ?_
    refine WC_meet2 (fun σ => ∃ (k : Nat) (v' : Value) (ch' : List UInt8), crash1 (gg, cch) r.n = (upG gg r.n (r.l.take k, k), ch') ∧ k ≤ r.l.length ∧ ByAt F v' ch' ∧ σ = ⟨[(6, .int .i64 k), (5, fP r.fb), (4, iV r.n), (2, fP x2)], [], (l, ol') :: (d, od) :: sBox xb sb :: chBox x3 v' :: sBox x2 sb :: sO sb mb' :: (mb', Obj.map es' cl') :: (ownL (A ++ r :: B) ++ (F ++ X))⟩) ?_ ?_
    · by_cases hmore : r.mark < r.l.length
      · have e1 : decide (((r.l.length - r.mark : Nat) : Int) > 0) = true := decide_eq_true (by omega)
        cases cch with
        | nil =>
          have e2 : decide (((([] : List UInt8).length : Nat) : Int) > 0) = false := by decide
          repeat (first | ((first | refine WL_Q ?_ | refine WL_Y ?_); (first | refine QW_a ?_ | refine QW_of (Qt_sl3 rfl) ?_ | refine QW_of (Qt_lookup rfl hmi hok'.map.ents) ?_)) | refine WL_nil ?_ | refine WL_un (h := ?_) | refine WL_N ?_ | refine WL_M ?_ | refine WC_seq ?_ | refine WC_block ?_ | refine WC_cond_t (ht := ?_) | refine WC_cond_f (he := ?_) | refine WC_skip ?_ | refine WC_region (id := 6) ?_)
          exact ⟨_, ⟨r.mark, _, [], by unfold crash1; simp only [hgr], hm1, hv, rfl⟩, ⟨rfl, rfl, rfl, rfl, trivial⟩, rfl, .refl _⟩
        | cons u ch' =>
          have e2 : decide ((((u :: ch').length : Nat) : Int) > 0) = true := decide_eq_true (by simp only [List.length_cons]; omega)
          obtain ⟨gc, oc, cpc, cur, E, fr, i, e3, hcl, hci, hcc⟩ := hv.head
          simp only [Value.slice.injEq] at e3
          obtain ⟨rfl, _, rfl⟩ := e3
          have hci' : ((l, ol') :: (d, od) :: sBox xb sb :: chBox x3 (.slice (some ⟨gc, oc, none⟩) (u :: ch').length vc) :: sBox x2 sb :: sO sb mb' :: (mb', Obj.map es' cl') :: (ownL (A ++ r :: B) ++ (F ++ X)))[(ownL (A ++ r :: B)).length + i + 7]? = some (gc, .cells cur E fr) := by
            show (ownL (A ++ r :: B) ++ (F ++ X))[(ownL (A ++ r :: B)).length + i]? = _
            rw [List.getElem?_append_right (by omega), Nat.add_sub_cancel_left]
            exact get_left hci
          have hcc' : cur[oc + (0 : Int).toNat * 1]? = some (bV u) := hcc
          have p1 : (0 : Int) < (((u :: ch').length : Nat) : Int) := by simp only [List.length_cons]; omega
          have p2 : (1 : Int) ≤ (((u :: ch').length : Nat) : Int) := by simp only [List.length_cons]; omega
          have w1 : IntKind.i64.wrap (((r.l.length - r.mark : Nat) : Int) + 1) = ((r.l.length - r.mark + 1 : Nat) : Int) := by rw [wI64 (by omega) (by omega)]; omega
          have w2 : IntKind.i64.wrap ((u.toNat : Nat) : Int) = ((u.toNat : Nat) : Int) := wI64 (by omega) (by have := u.toNat_lt; omega)
          have hne0 : IntKind.i64.wrap (((r.l.length - r.mark : Nat) : Int) + 1) ≠ 0 := by rw [w1]; omega
          have hlt := Nat.mod_lt u.toNat (show 0 < r.l.length - r.mark + 1 by omega)
          have w3 : IntKind.i64.wrap (((r.mark : Nat) : Int) + ((u.toNat : Nat) : Int).tmod ((r.l.length - r.mark + 1 : Nat) : Int)) = ((r.mark + u.toNat % (r.l.length - r.mark + 1) : Nat) : Int) := by
            rw [show ((u.toNat : Nat) : Int).tmod ((r.l.length - r.mark + 1 : Nat) : Int) = ((u.toNat % (r.l.length - r.mark + 1) : Nat) : Int) from rfl]
            rw [wI64 (by omega) (by omega)]
            omega
          repeat (first | ((first | refine WL_Q ?_ | refine WL_Y ?_); (first | refine QW_a ?_ | refine QW_of (Qt_sl3 rfl) ?_ | refine QW_of (Qt_lookup rfl hmi hok'.map.ents) ?_)) | ((first | refine WL_op rfl ?_ | refine WL_yes (h := ?_)); (first | refine OW_st1 rfl ?_)) | refine WL_nil ?_ | refine WL_un (h := ?_) | refine WL_N ?_ | refine WL_M ?_ | refine WC_seq ?_ | refine WC_block ?_ | refine WC_cond_t (ht := ?_) | refine WC_cond_f (he := ?_) | refine WC_skip ?_ | refine WC_region (id := 6) ?_ | refine WC_region (id := 7) ?_ | refine WC_region (id := 8) ?_)
          rw [w2, w1, w3]
          refine ⟨_, ⟨r.mark + u.toNat % (r.l.length - r.mark + 1), _, ch', ?_, by omega, hv.tail, rfl⟩, ⟨rfl, rfl, rfl, rfl, trivial⟩, rfl, .refl _⟩
          unfold crash1
          simp only [hgr]
          rw [if_pos hmore]
      · have e1 : decide (((r.l.length - r.mark : Nat) : Int) > 0) = false := decide_eq_false (by omega)
        repeat (first | ((first | refine WL_Q ?_ | refine WL_Y ?_); (first | refine QW_a ?_ | refine QW_of (Qt_sl3 rfl) ?_ | refine QW_of (Qt_lookup rfl hmi hok'.map.ents) ?_)) | refine WL_nil ?_ | refine WL_un (h := ?_) | refine WL_N ?_ | refine WL_M ?_ | refine WC_seq ?_ | refine WC_block ?_ | refine WC_cond_t (ht := ?_) | refine WC_cond_f (he := ?_) | refine WC_skip ?_ | refine WC_region (id := 6) ?_)
        refine ⟨_, ⟨r.mark, _, cch, ?_, hm1, hv, rfl⟩, ⟨rfl, rfl, rfl, rfl, trivial⟩, rfl, .refl _⟩
        unfold crash1
        cases cch with
        | nil => simp only [hgr]
        | cons u ch' => simp only [hgr]; rw [if_neg hmore]
    rintro _ ⟨k, v', ch', hcr, hk, hv', rfl⟩
    rw [hcr]
    repeat (first | ((first | refine WL_Q ?_); (first | refine QW_a ?_ | refine QW_of (Qt_sl3 rfl) ?_ | refine QW_of (Qt_lookup rfl hmi hok'.map.ents) ?_)) | refine WL_nil ?_ | refine WC_seq ?_ | refine WC_block ?_ | refine WC_cond_t (ht := ?_) | refine WC_cond_f (he := ?_) | refine WC_skip ?_ | refine WC_region (id := 9) ?_)
    have hpm : ∀ S1 : List (Nat × Obj), (S1 ++ ((l, ol') :: (d, od) :: sBox xb sb :: chBox x3 v' :: sBox x2 sb :: (F ++ X))).Perm ((l, ol') :: (d, od) :: sBox xb sb :: chBox x3 v' :: sBox x2 sb :: (S1 ++ (F ++ X))) := fun S1 => List.perm_append_comm_assoc S1 [(l, ol'), (d, od), sBox xb sb, chBox x3 v', sBox x2 sb] (F ++ X)
    refine WL_permA (hpm (sO sb mb' :: (mb', Obj.map es' cl') :: ownL (A ++ r :: B))) ?_
    refine WL_op rfl (OW_call rfl (hF := stay_st hF (by rw [hgr]; exact hk)) (hk := ?_))
    rintro _ _ ⟨rfl, S2, rfl, hS2⟩
    rw [hgr] at hS2
    refine WL_permA (hpm S2).symm ?_
    repeat (first | ((first | refine WL_Q ?_); (first | refine QW_a ?_ | refine QW_of (Qt_sl3 rfl) ?_ | refine QW_of (Qt_lookup rfl hmi hok'.map.ents) ?_)) | refine WL_nil ?_ | refine WC_seq ?_ | refine WC_block ?_ | refine WC_cond_t (ht := ?_) | refine WC_cond_f (he := ?_) | refine WC_skip ?_ | refine WC_region (id := 9) ?_)
    refine ⟨sBox xb sb :: chBox x3 v' :: sBox x2 sb :: (S2 ++ (F ++ X)), .refl _, sBox xb sb :: chBox x3 v' :: sBox x2 sb :: (S2 ++ F), by simp, S2, v', by simp, hS2, hv', rfl⟩
  · rintro d xs L' hout ⟨S', v, _, hS', _, rfl⟩
    exact ⟨_, ⟨d, 0, _, rfl, rfl, rfl, rfl⟩, _, _, Res0 rfl, .cons _ (.cons _ (.cons _ (.cons _ (.refl _)))), rfl, xs, S', hout.2, hout.1.nodup_iff.2 hkeys, fun n => by rw [hout.1.mem_iff]; exact hk2 n, rfl, hS'⟩
  · intro _ _ _ h
    exact h.elim
end Go.Proofs.Ytmdiabglbmgkkaa
namespace Go.Proofs.Ytmdiabglbmgkkaa
open Go.RowKit
abbrev F1 := List UInt8 × Nat
def addF (b : List UInt8) (x : F1) : F1 := if 1048576 < x.1.length + b.length then x else (x.1 ++ b, x.2)
def syncF (x : F1) : F1 := if x.1 = [] then x else (x.1, x.1.length)
def cutF (many : Int) (x : F1) : F1 := if x.1 = [] ∨ many < 0 ∨ (x.1.length : Int) < many then x else (x.1.take many.toNat, many.toNat)
theorem appG_up {g : FG} {n : Int} {b : List UInt8} (hn : 0 ≤ n) : appG g n b = upG g n (addF b (g n)) := by
  unfold appG addF
  rw [if_neg (by omega)]
  by_cases h : 1048576 < (g n).1.length + b.length
  · rw [if_pos h, if_pos h, upG_self]
  · rw [if_neg h, if_neg h]
theorem syncG_up {g : FG} {n : Int} : syncG g n = upG g n (syncF (g n)) := by
  unfold syncG syncF
  by_cases h : (g n).1 = []
  · rw [if_pos h, if_pos h, upG_self]
  · rw [if_neg h, if_neg h]
theorem cutG_up {g : FG} {n many : Int} : cutG g n many = upG g n (cutF many (g n)) := by
  unfold cutG cutF cutE
  by_cases h : (g n).1 = []
  · rw [if_pos h, if_neg (by decide), if_pos (.inl h), upG_self]
  · rw [if_neg h]
    by_cases h2 : many < 0 ∨ ((g n).1.length : Int) < many
    · rw [if_pos h2, if_neg (by decide), if_pos (.inr h2), upG_self]
    · rw [if_neg h2, if_pos rfl, if_neg (by rintro (h' | h'); exact h h'; exact h2 h')]
theorem rise_eq : ∀ {a b : List Int}, Rise a → Rise b → a.Nodup → b.Nodup → (∀ x, x ∈ a ↔ x ∈ b) → a = b
  | [], [], _, _, _, _, _ => rfl
  | [], y :: b, _, _, _, _, h => absurd ((h y).2 (List.mem_cons_self ..)) (by simp)
  | x :: a, [], _, _, _, _, h => absurd ((h x).1 (List.mem_cons_self ..)) (by simp)
  | x :: a, y :: b, ha, hb, na, nb, h => by
    obtain ⟨a1, a2⟩ := List.pairwise_cons.1 ha
    obtain ⟨b1, b2⟩ := List.pairwise_cons.1 hb
    obtain ⟨n1, n2⟩ := List.nodup_cons.1 na
    obtain ⟨m1, m2⟩ := List.nodup_cons.1 nb
    have e : x = y := by
      have h1 : y ≤ x := by
        rcases List.mem_cons.1 ((h x).1 (List.mem_cons_self ..)) with g | g
        · omega
        · exact b1 x g
      have h2 : x ≤ y := by
        rcases List.mem_cons.1 ((h y).2 (List.mem_cons_self ..)) with g | g
        · omega
        · exact a1 y g
      omega
    subst e
    rw [rise_eq a2 b2 n2 m2 fun z => ?_]
    constructor
    · intro hz
      rcases List.mem_cons.1 ((h z).1 (List.mem_cons_of_mem _ hz)) with g | g
      · exact absurd (g ▸ hz) n1
      · exact g
    · intro hz
      rcases List.mem_cons.1 ((h z).2 (List.mem_cons_of_mem _ hz)) with g | g
      · exact absurd (g ▸ hz) m1
      · exact g
def Few (g : FG) : Prop := ∀ n, (g n).1 ≠ [] → 0 ≤ n ∧ n < 7
def keys7 (g : FG) : List Int := (([0, 1, 2, 3, 4, 5, 6] : List Int)).filter fun n => !(g n).1.isEmpty
theorem mem_keys7 {g : FG} (h : Few g) (n : Int) : n ∈ keys7 g ↔ (g n).1 ≠ [] := by
  unfold keys7
  rw [List.mem_filter]
  constructor
  · rintro ⟨_, h2⟩
    simpa using h2
  · intro hne
    refine ⟨?_, by simpa using hne⟩
    obtain ⟨h1, h2⟩ := h n hne
    have : n = 0 ∨ n = 1 ∨ n = 2 ∨ n = 3 ∨ n = 4 ∨ n = 5 ∨ n = 6 := by omega
    simpa using this
theorem keys7_rise (g : FG) : Rise (keys7 g) ∧ (keys7 g).Nodup := by
  unfold keys7
  exact ⟨List.Pairwise.sublist List.filter_sublist (by decide), List.Nodup.sublist List.filter_sublist (by decide)⟩
theorem keys7_eq {g : FG} (h : Few g) {xs : List Int} (h1 : Rise xs) (h2 : xs.Nodup) (h3 : ∀ n, n ∈ xs ↔ (g n).1 ≠ []) : xs = keys7 g :=
  rise_eq h1 (keys7_rise g).1 h2 (keys7_rise g).2 fun n => (h3 n).trans (mem_keys7 h n).symm
theorem Few.up {g : FG} (h : Few g) {n : Int} {x : F1} (hn : x.1 ≠ [] → 0 ≤ n ∧ n < 7) : Few (upG g n x) := fun m hm => by
  unfold upG at hm
  by_cases e : m = n
  · rw [if_pos e] at hm; rw [e]; exact hn hm
  · rw [if_neg e] at hm; exact h m hm
theorem Few.app {g : FG} (h : Few g) {n : Int} (hn : n < 7) (b : List UInt8) : Few (appG g n b) := by
  by_cases h0 : n < 0
  · unfold appG; rw [if_pos h0]; exact h
  · rw [appG_up (by omega)]; exact h.up fun _ => ⟨by omega, hn⟩
theorem Few.sync {g : FG} (h : Few g) (n : Int) : Few (syncG g n) := by
  rw [syncG_up]
  refine h.up fun hne => h n fun e => ?_
  unfold syncF at hne
  rw [if_pos e] at hne
  exact hne e
theorem Few.cut {g : FG} (h : Few g) (n many : Int) : Few (cutG g n many) := by
  rw [cutG_up]
  refine h.up fun hne => h n fun e => ?_
  unfold cutF at hne
  rw [if_pos (.inl e)] at hne
  exact hne e
theorem Few.zero : Few (fun _ => ([], 0)) := fun _ h => absurd rfl h
theorem crashes_few : ∀ {xs : List Int} {g : FG} {ch : List UInt8}, Few g → Few (crashes xs g ch).1
  | [], _, _, h => h
  | x :: xs, g, ch, h => by
    have h1 : Few (crash1 (g, ch) x).1 := by
      unfold crash1
      split
      · refine h.up fun hne => h x fun e => ?_
        dsimp only at hne
        rw [e, List.take_nil] at hne
        exact hne rfl
      · split
        · refine h.up fun hne => h x fun e => ?_
          dsimp only at hne
          rw [e, List.take_nil] at hne
          exact hne rfl
        · refine h.up fun hne => h x fun e => ?_
          dsimp only at hne
          rw [e, List.take_nil] at hne
          exact hne rfl
    exact crashes_few (xs := xs) (g := (crash1 (g, ch) x).1) (ch := (crash1 (g, ch) x).2) h1
def crashG (g : FG) (ch : List UInt8) : FG := (crashes (keys7 g) g ch).1
theorem files7_st {sb : Nat} {S F : List (Nat × Obj)} {g : FG} (h : StAt sb S g) (hf : Few g) : Fn Try.prog 13 [fP sb] (S ++ F) (fun r L' => ∃ T, BufI r T (keys7 g) ∧ L' = T ++ (S ++ F)) :=
  (files_st h (fun n hn => by have := hf n hn; omega)).mono fun v L' ⟨xs, T, h1, h2, h3, h4, h5⟩ => ⟨T, by rw [← keys7_eq hf h1 h2 h3]; exact h4, h5⟩
theorem crash7_st {sb : Nat} {S F : List (Nat × Obj)} {g : FG} {chv : Value} {ch : List UInt8} (h : StAt sb S g) (hf : Few g) (hch : ByAt F chv ch) :
    Fn Try.prog 23 [fP sb, chv] (S ++ F) (fun v L' => v = .tuple #[] ∧ ∃ S', L' = S' ++ F ∧ StAt sb S' (crashG g ch)) :=
  (crash_st h (fun n hn => by have := hf n hn; omega) hch).mono fun v L' ⟨h0, xs, S', h1, h2, h3, h4, h5⟩ => ⟨h0, S', h4, by unfold crashG; rw [← keys7_eq hf h1 h2 h3]; exact h5⟩
attribute [local irreducible] Fn WC WL WR OW Qt YieldFn QW
theorem reads_st {sb : Nat} {S F : List (Nat × Obj)} {g : FG} {n : Int} {b : List UInt8} (h : StAt sb S g) : Fn Try.prog 22 [fP sb, .int .i64 n, .string (bstr b)] (S ++ F) (fun r L' => r = .bool ((g n).1 == b) ∧ L' = S ++ F) := by
  refine Fn_enter Try.func22 rfl Try.ntmps22 rfl fun gw => ?_
  repeat (first | ((first | refine WL_Q ?_ | refine WL_Y ?_); (first | refine QW_a ?_)) | ((first | refine WL_op rfl ?_ | refine WL_yes (h := ?_)); (first | refine OW_callP rfl (hF := read_st h) (hk := ?_))) | refine WL_nil ?_ | refine WL_un (h := ?_) | refine WL_N ?_ | refine WL_M ?_ | refine WC_seq ?_ | refine WC_ret ?_ | refine WC_region ?_)
  by_cases hb : (g n).1 = b
  · have e1 : ((g n).1 == b) = true := by simpa using hb
    rw [e1]
    have e2 : ((syncE g n == 0) == !(b == [])) = true := by
      unfold syncE
      rw [hb]
      by_cases h0 : b = []
      · rw [if_pos h0, h0]; rfl
      · rw [if_neg h0]
        have : (b == []) = false := by simpa using h0
        rw [this]; rfl
    repeat (first | ((first | refine WL_Q ?_ | refine WL_Y ?_); (first | refine QW_a ?_)) | ((first | refine WL_op rfl ?_ | refine WL_yes (h := ?_)); (first | refine OW_callP rfl (hF := read_st h) (hk := ?_))) | refine WL_nil ?_ | refine WL_un (h := ?_) | refine WL_N ?_ | refine WL_M ?_ | refine WC_seq ?_ | refine WC_ret ?_ | refine WC_region ?_)
    exact ⟨rfl, _, _, Res1 rfl (resV_tmp rfl), .refl _, by rw [e2], rfl⟩
  · have e1 : ((g n).1 == b) = false := by simpa using hb
    rw [e1]
    repeat (first | ((first | refine WL_Q ?_ | refine WL_Y ?_); (first | refine QW_a ?_)) | ((first | refine WL_op rfl ?_ | refine WL_yes (h := ?_)); (first | refine OW_callP rfl (hF := read_st h) (hk := ?_))) | refine WL_nil ?_ | refine WL_un (h := ?_) | refine WL_N ?_ | refine WL_M ?_ | refine WC_seq ?_ | refine WC_ret ?_ | refine WC_region ?_)
    exact ⟨rfl, _, _, Res1 rfl (resV_tmp rfl), .refl _, rfl, rfl⟩
end Go.Proofs.Ytmdiabglbmgkkaa
namespace Go.Proofs.Ytmdiabglbmgkkaa
open Go.RowKit
theorem WL_dropS {c : Cx} {ops : Array Oper} {l : List Oper} {K : Exit → St → Prop} {s : List (Nat × Value)} {D : List Deferred} {L L' : List (Nat × Obj)} (hs : L'.Sublist L) (h : WL c ops l K ⟨s, D, L'⟩) : WL c ops l K ⟨s, D, L⟩ := fun a w ha => h a w (ha.mem' (ha.mem.sublist hs))
attribute [local irreducible] Fn WC WL WR OW Qt YieldFn QW
abbrev g0 : FG := fun _ => ([], 0)
abbrev g1 : FG := appG g0 0 [97, 98]
abbrev g2 : FG := syncG g1 0
abbrev g3 : FG := appG g2 0 [99, 100, 101]
abbrev g4 : FG := appG g3 3 [120]
abbrev g5 : FG := crashG g4 [2]
abbrev g6 : FG := appG g5 0 [122]
abbrev g7 : FG := cutG g6 0 3
abbrev g8 : FG := crashG g7 []
abbrev g9 : FG := cutG g8 0 0
theorem few4 : Few g4 := (((Few.zero.app (by decide) _).sync _).app (by decide) _).app (by decide) _
theorem few5 : Few g5 := crashes_few few4
theorem few7 : Few g7 := (few5.app (by decide) _).cut _ _
theorem few9 : Few g9 := (crashes_few few7).cut _ _
theorem ev1 : appE g0 0 [97, 98] = 0 ∧ syncE g1 0 = 0 ∧ appE g2 0 [99, 100, 101] = 0 ∧ appE g3 3 [120] = 0 ∧ keys7 g4 = [0, 3] ∧ (g4 0).2 = 2 ∧ ((g4 0).1 == [97, 98, 99, 100, 101]) = true := by decide
theorem ev2 : keys7 g5 = [0] ∧ ((g5 0).1 == [97, 98, 99, 100]) = true := by decide
theorem ev3 : cutE g6 0 3 = 0 ∧ ((g8 0).1 == [97, 98, 99]) = true ∧ cutE g8 0 0 = 0 ∧ keys7 g9 = [] := by decide
theorem ByAt.one (b E : Nat) (fr : Nat × Nat) (u : UInt8) (L : List (Nat × Obj)) : ByAt ((b, .cells #[bV u] E fr) :: L) (.slice (some ⟨b, 0, none⟩) 1 1) [u] :=
  ⟨rfl, _, 1, rfl, Nat.le_refl _, by decide, .inr ⟨b, 0, _, E, fr, 0, rfl, rfl, fun j x hj => by
    cases j with
    | zero => simpa using hj
    | succ j => simp at hj⟩⟩
theorem int_eq {a b : Int} (h : a = b) : some (Value.int .i64 a) = some (Value.int .i64 b) := by rw [h]
set_option maxHeartbeats 8000000 in
theorem works15_fn {L : List (Nat × Obj)} : Fn Try.prog 8 [] L (fun v L' => v = .bool true ∧ L' = L) := by
  refine Fn_enter Try.func8 rfl Try.ntmps8 rfl fun gw => ?_
  repeat (first | ((first | refine WL_Q ?_); (first | refine QW_a ?_)) | ((first | refine WL_op rfl ?_); (first | (refine OW_call rfl (hF := new_fn) (hk := ?_); rintro _ _ ⟨sb, S', rfl, rfl, h'⟩) | (refine OW_call rfl (hF := append_st (by assumption) (by decide)) (hk := ?_); rintro _ _ ⟨rfl, S', rfl, h'⟩) | (refine OW_call rfl (hF := sync_st (by assumption)) (hk := ?_); rintro _ _ ⟨rfl, S', rfl, h'⟩))) | refine WL_nil ?_ | refine WC_seq ?_ | refine WC_cond_t (ht := ?_) | refine WC_cond_f (he := ?_) | refine WC_skip ?_ | refine WC_ret ?_ | refine WC_region (id := 0) ?_ | refine WC_region (id := 1) ?_ | refine WC_region (id := 2) ?_ | refine WC_region (id := 4) ?_)
  have h4 : StAt sb S' g4 := h'
  have hf4 := few4
  obtain ⟨v1, v2, v3, v4, v5, v6, v7⟩ := ev1
  refine WC_wk [(5, iV 0), (4, iV 0), (3, iV 0), (2, iV 0), (1, fP sb)] ⟨int_eq v4, int_eq v3, int_eq v2, int_eq v1, rfl, trivial⟩ ?_
  clear v1 v2 v3 v4
  repeat (first | ((first | refine WL_Q ?_); (first | refine QW_a ?_)) | ((first | refine WL_op rfl ?_); (first | (refine OW_call rfl (hF := files7_st h4 hf4) (hk := ?_); rintro r _ ⟨T, hT, rfl⟩))) | refine WL_nil ?_ | refine WC_seq ?_ | refine WC_cond_t (ht := ?_) | refine WC_cond_f (he := ?_) | refine WC_skip ?_ | refine WC_ret ?_ | refine WC_region (id := 5) ?_)
  rw [v5] at hT
  rcases hT with ⟨_, h2, _⟩ | ⟨gT, oT, cT, cuT, rfl, rfl, hT⟩
  · cases h2
  have t0 : cuT[oT + (0 : Int).toNat * 1]? = some (iV 0) := OwnI.at_i hT rfl rfl
  have t1 : cuT[oT + (1 : Int).toNat * 1]? = some (iV 3) := OwnI.at_i hT rfl rfl
  refine WC_permA (L' := S' ++ ([(gT, .cells cuT 3 (0, 0))] ++ L)) (List.perm_append_comm_assoc ..) ?_
  repeat (first | ((first | refine WL_Q ?_); (first | refine QW_a ?_)) | ((first | refine WL_op rfl ?_); (first | refine OW_callP rfl (hF := synced_st (by assumption)) (hk := ?_) | refine OW_callP rfl (hF := reads_st (by assumption)) (hk := ?_))) | refine WL_nil ?_ | refine WC_seq ?_ | refine WC_cond_t (ht := ?_) | refine WC_cond_f (he := ?_) | refine WC_skip ?_ | refine WC_ret ?_ | refine WC_region (id := 6) ?_ | refine WC_region (id := 7) ?_)
  rw [v6, v7]
  repeat (first | ((first | refine WL_Q ?_); (first | refine QW_a ?_)) | ((first | refine WL_op rfl ?_); (first | refine OW_build1 rfl (hk := fun _ => ?_))) | refine WL_nil ?_ | refine WC_seq ?_ | refine WC_cond_t (ht := ?_) | refine WC_cond_f (he := ?_) | refine WC_skip ?_ | refine WC_ret ?_ | refine WC_region (id := 8) ?_)
  rename_i bx
  have hch := ByAt.one bx 5 (0, 0) 2 ([(gT, Obj.cells cuT 3 (0, 0))] ++ L)
  refine WL_permA (L' := S' ++ ((bx, .cells #[bV 2] 5 (0, 0)) :: ([(gT, .cells cuT 3 (0, 0))] ++ L))) List.perm_middle ?_
  refine WL_op rfl (OW_call rfl (hF := crash7_st h4 hf4 hch) (hk := ?_))
  rintro _ _ ⟨rfl, S5, rfl, h5⟩
  have h5 : StAt sb S5 g5 := h5
  have hf5 := few5
  obtain ⟨w1, w2⟩ := ev2
  clear hch h4
  refine WL_dropS (L' := S5 ++ ([(gT, .cells cuT 3 (0, 0))] ++ L)) (.append (.refl _) (.cons _ (.refl _))) ?_
  repeat (first | ((first | refine WL_Q ?_); (first | refine QW_a ?_)) | ((first | refine WL_op rfl ?_); (first | refine OW_build1 rfl (hk := fun _ => ?_) | (refine OW_call rfl (hF := files7_st h5 hf5) (hk := ?_); rintro r _ ⟨T, hU, rfl⟩))) | refine WL_nil ?_ | refine WC_seq ?_ | refine WC_cond_t (ht := ?_) | refine WC_cond_f (he := ?_) | refine WC_skip ?_ | refine WC_ret ?_ | refine WC_region (id := 8) ?_ | refine WC_region (id := 9) ?_)
  rw [w1] at hU
  rcases hU with ⟨_, h2, _⟩ | ⟨gU, oU, cU, cuU, rfl, rfl, hU⟩
  · cases h2
  have u0 : cuU[oU + (0 : Int).toNat * 1]? = some (iV 0) := OwnI.at_i hU rfl rfl
  refine WC_permA (L' := S5 ++ ([(gU, .cells cuU 3 (0, 0))] ++ ([(gT, .cells cuT 3 (0, 0))] ++ L))) (List.perm_append_comm_assoc ..) ?_
  repeat (first | ((first | refine WL_Q ?_); (first | refine QW_a ?_)) | ((first | refine WL_op rfl ?_); (first | refine OW_callP rfl (hF := reads_st (by assumption)) (hk := ?_))) | refine WL_nil ?_ | refine WC_seq ?_ | refine WC_cond_t (ht := ?_) | refine WC_cond_f (he := ?_) | refine WC_skip ?_ | refine WC_ret ?_ | refine WC_region (id := 10) ?_)
  rw [w2]
  repeat (first | ((first | refine WL_Q ?_); (first | refine QW_a ?_)) | ((first | refine WL_op rfl ?_); (first | (refine OW_call rfl (hF := append_st (by assumption) (by decide)) (hk := ?_); rintro _ _ ⟨rfl, S', rfl, h'⟩) | (refine OW_call rfl (hF := cut_st (by assumption)) (hk := ?_); rintro _ _ ⟨rfl, S', rfl, h'⟩))) | refine WL_nil ?_ | refine WC_seq ?_ | refine WC_cond_t (ht := ?_) | refine WC_cond_f (he := ?_) | refine WC_skip ?_ | refine WC_ret ?_ | refine WC_region (id := 11) ?_ | refine WC_region (id := 12) ?_ | refine WC_region (id := 13) ?_)
  have h7 : StAt sb S' g7 := h'
  have hf7 := few7
  obtain ⟨x1, x2, x3, x4⟩ := ev3
  refine WL_op rfl (OW_call rfl (hF := crash7_st h7 hf7 (ByAt.nil _)) (hk := ?_))
  rintro _ _ ⟨rfl, S8, rfl, h8⟩
  have h8 : StAt sb S8 g8 := h8
  clear h7 h5 h'
  repeat (first | ((first | refine WL_Q ?_); (first | refine QW_a ?_)) | ((first | refine WL_op rfl ?_); (first | refine OW_callP rfl (hF := reads_st (by assumption)) (hk := ?_))) | refine WL_nil ?_ | refine WC_seq ?_ | refine WC_cond_t (ht := ?_) | refine WC_cond_f (he := ?_) | refine WC_skip ?_ | refine WC_ret ?_ | refine WC_region (id := 13) ?_ | refine WC_region (id := 14) ?_)
  rw [x2]
  repeat (first | ((first | refine WL_Q ?_); (first | refine QW_a ?_)) | ((first | refine WL_op rfl ?_); (first | (refine OW_call rfl (hF := remove_st (by assumption)) (hk := ?_); rintro _ _ ⟨rfl, S', rfl, h'⟩))) | refine WL_nil ?_ | refine WC_seq ?_ | refine WC_cond_t (ht := ?_) | refine WC_cond_f (he := ?_) | refine WC_skip ?_ | refine WC_ret ?_ | refine WC_region (id := 15) ?_)
  have h9 : StAt sb S' g9 := h'
  have hf9 := few9
  refine WC_wk [(13, iV 0), (12, .bool true), (11, iV 0), (10, .bool true), (9, .slice (some ⟨gU, oU, none⟩) ([0] : List Int).length cU), (8, .bool true), (7, iV 2), (6, .slice (some ⟨gT, oT, none⟩) ([0, 3] : List Int).length cT), (5, iV 0), (4, iV 0), (3, iV 0), (2, iV 0), (1, fP sb)] ⟨int_eq x3, rfl, int_eq x1, rfl, rfl, rfl, rfl, rfl, rfl, rfl, rfl, rfl, rfl, trivial⟩ ?_
  refine WC_permA (L' := (gU, .cells cuU 3 (0, 0)) :: (gT, .cells cuT 3 (0, 0)) :: (S' ++ L)) (List.perm_append_comm_assoc [_, _] S' L) ?_
  repeat (first | ((first | refine WL_Q ?_ | refine WL_Y ?_); (first | refine QW_a ?_)) | refine WL_nil ?_ | refine WL_un (h := ?_) | refine WL_N ?_ | refine WL_M ?_ | refine WC_seq ?_ | refine WC_cond_t (ht := ?_) | refine WC_cond_f (he := ?_) | refine WC_skip ?_ | refine WC_ret ?_ | refine WC_app (id := 16) (by simp only [List.append]; rfl) ?_ | refine WC_region (id := 16) ?_)
  refine WL_permA (L' := S' ++ ([(gU, .cells cuU 3 (0, 0)), (gT, .cells cuT 3 (0, 0))] ++ L)) (List.perm_append_comm_assoc S' [_, _] L) ?_
  refine WL_yes rfl rfl rfl rfl rfl (OW_call rfl (hF := files7_st h9 hf9) (hk := ?_))
  rintro _ _ ⟨W, hW, rfl⟩
  rw [x4] at hW
  obtain ⟨aW, cW, rfl, _, _⟩ := hW.val
  repeat (first | ((first | refine WL_Q ?_ | refine WL_Y ?_); (first | refine QW_a ?_)) | refine WL_nil ?_ | refine WL_un (h := ?_) | refine WL_N ?_ | refine WL_M ?_ | refine WC_seq ?_ | refine WC_cond_t (ht := ?_) | refine WC_cond_f (he := ?_) | refine WC_skip ?_ | refine WC_ret ?_ | refine WC_app (id := 16) (by simp only [List.append]; rfl) ?_ | refine WC_region (id := 16) ?_)
  exact ⟨rfl, _, L, Res1 rfl (resV_tmp rfl), .trans (.trans (List.sublist_append_right _ _) (List.sublist_append_right _ _)) (List.sublist_append_right _ _), rfl, rfl⟩
end Go.Proofs.Ytmdiabglbmgkkaa
namespace Go.Proofs.Ytmdiabglbmgkkaa
open Go.RowKit
abbrev nBox (xb : Nat) : Nat × Obj := (xb, .cells #[.pointer none] 24 (0, 0))
attribute [local irreducible] Fn WC WL WR OW Qt YieldFn QW
section
variable {L : List (Nat × Obj)} {n : Int}
theorem there_nil : Fn Try.prog 33 [.pointer none, .int .i64 n] L (fun v L' => v = .tuple #[.pointer none, .int .i64 1] ∧ L' = L) := by
  refine Fn_enter Try.func33 rfl Try.ntmps33 rfl fun gw => ?_
  repeat (first | ((first | refine WL_Q ?_); (first | refine QW_a ?_)) | refine WL_nil ?_ | refine WC_seq ?_ | refine WC_cond_t (ht := ?_) | refine WC_cond_f (he := ?_) | refine WC_skip ?_ | refine WC_ret ?_ | refine WC_region ?_)
  exact ⟨rfl, _, _, Res2 rfl (resV_tmp rfl) (resV_tmp rfl), .refl _, rfl, rfl⟩
theorem read_nil : Fn Try.prog 11 [.pointer none, .int .i64 n] L (fun v L' => v = .tuple #[.string (bstr []), .int .i64 1] ∧ L' = L) := by
  refine Fn_enter Try.func11 rfl Try.ntmps11 rfl fun gw => ?_
  repeat (first | ((first | refine WL_Q ?_); (first | refine QW_a ?_)) | ((first | refine WL_op rfl ?_); (first | refine OW_callP rfl (hF := there_nil) (hk := ?_))) | refine WL_nil ?_ | refine WC_seq ?_ | refine WC_cond_t (ht := ?_) | refine WC_cond_f (he := ?_) | refine WC_skip ?_ | refine WC_ret ?_ | refine WC_region ?_)
  exact ⟨rfl, _, _, Res2 rfl (resV_tmp rfl) (resV_tmp rfl), .refl _, rfl, rfl⟩
theorem append_nil {b : List UInt8} : Fn Try.prog 20 [.pointer none, .int .i64 n, .string (bstr b)] L (fun v L' => v = .int .i64 1 ∧ L' = L) := by
  refine Fn_enter Try.func20 rfl Try.ntmps20 rfl fun gw => ?_
  repeat (first | ((first | refine WL_Q ?_); (first | refine QW_a ?_)) | ((first | refine WL_op rfl ?_); (first | refine OW_box rfl (hk := fun _ => ?_) | refine OW_st1 rfl ?_ | refine OW_callP rfl (hF := there_nil) (hk := ?_))) | refine WL_nil ?_ | refine WC_seq ?_ | refine WC_block ?_ | refine WC_cond_t (ht := ?_) | refine WC_cond_f (he := ?_) | refine WC_skip ?_ | refine WC_ret ?_ | refine WC_region ?_)
  exact ⟨rfl, _, _, Res1 rfl (resV_tmp rfl), .refl _, rfl, rfl⟩
theorem sync_nil : Fn Try.prog 17 [.pointer none, .int .i64 n] L (fun v L' => v = .int .i64 1 ∧ L' = L) := by
  refine Fn_enter Try.func17 rfl Try.ntmps17 rfl fun gw => ?_
  repeat (first | ((first | refine WL_Q ?_); (first | refine QW_a ?_)) | ((first | refine WL_op rfl ?_); (first | refine OW_callP rfl (hF := there_nil) (hk := ?_))) | refine WL_nil ?_ | refine WC_seq ?_ | refine WC_cond_t (ht := ?_) | refine WC_cond_f (he := ?_) | refine WC_skip ?_ | refine WC_ret ?_ | refine WC_region ?_)
  exact ⟨rfl, _, _, Res1 rfl (resV_tmp rfl), .refl _, rfl, rfl⟩
theorem cut_nil {m : Int} : Fn Try.prog 18 [.pointer none, .int .i64 n, .int .i64 m] L (fun v L' => v = .int .i64 1 ∧ L' = L) := by
  refine Fn_enter Try.func18 rfl Try.ntmps18 rfl fun gw => ?_
  repeat (first | ((first | refine WL_Q ?_ | refine WL_Y ?_); (first | refine QW_a ?_)) | ((first | refine WL_op rfl ?_ | refine WL_yes (h := ?_)); (first | refine OW_callP rfl (hF := there_nil) (hk := ?_))) | refine WL_nil ?_ | refine WL_un (h := ?_) | refine WL_N ?_ | refine WL_M ?_ | refine WC_seq ?_ | refine WC_block ?_ | refine WC_cond_t (ht := ?_) | refine WC_cond_f (he := ?_) | refine WC_skip ?_ | refine WC_ret ?_ | refine WC_region ?_)
  exact ⟨rfl, _, _, Res1 rfl (resV_tmp rfl), .refl _, rfl, rfl⟩
theorem synced_nil : Fn Try.prog 12 [.pointer none, .int .i64 n] L (fun v L' => v = .int .i64 0 ∧ L' = L) := by
  refine Fn_enter Try.func12 rfl Try.ntmps12 rfl fun gw => ?_
  repeat (first | ((first | refine WL_Q ?_); (first | refine QW_a ?_)) | ((first | refine WL_op rfl ?_); (first | refine OW_callP rfl (hF := there_nil) (hk := ?_))) | refine WL_nil ?_ | refine WC_seq ?_ | refine WC_cond_t (ht := ?_) | refine WC_cond_f (he := ?_) | refine WC_skip ?_ | refine WC_ret ?_ | refine WC_region ?_)
  exact ⟨rfl, _, _, Res1 rfl (resV_tmp rfl), .refl _, rfl, rfl⟩
theorem copy_nil : Fn Try.prog 21 [.pointer none] L (fun v L' => v = .pointer none ∧ L' = L) := by
  refine Fn_enter Try.func21 rfl Try.ntmps21 rfl fun gw => ?_
  repeat (first | ((first | refine WL_Q ?_ | refine WR_Q rfl ?_ | refine WR_late rfl rfl rfl (OW_Q ?_)); (first | refine QW_a ?_)) | ((first | refine WL_op rfl ?_ | refine WR_late rfl rfl rfl ?_ | refine WR_opG rfl rfl ?_); (first | refine OW_box rfl (hk := fun _ => ?_)); try refine ⟨(by first | exact fun _ h => h | exact sub_mem (by repeat (first | exact .refl _ | exact List.nil_sublist _ | exact List.sublist_append_right _ _ | exact List.Sublist.append (.refl _) (List.sublist_append_right _ _) | apply List.Sublist.cons_cons | apply List.Sublist.cons))), ?_⟩) | refine WL_nil ?_ | refine WR_nil ?_ | refine WC_seq ?_ | refine WC_block ?_ | refine WC_cond_t (ht := ?_) | refine WC_cond_f (he := ?_) | refine WC_skip ?_ | refine WC_ret ?_ | refine WC_exit ?_ | refine WC_draw_all (id := 7) 16 (.calm 0 <| .calm 1 <| .calm 2 <| .calm 3 <| .calm 4 <| .calm 5 <| .calm 6 <| .calm 7 <| .calm 8 <| .calm 10 <| .calm 11 <| .calm 12 <| .calm 13 <| .must 9 <| .calm 14 <| .must 15 <| .must 16 <| .done) mixed (by kernel_rfl) ?_ | refine WC_region ?_)
  exact ⟨rfl, _, _, Res1 rfl (resV_tmp rfl), .refl _, rfl, rfl⟩
theorem remove_nil : Fn Try.prog 19 [.pointer none, .int .i64 n] L (fun v L' => v = .int .i64 1 ∧ L' = L) := by
  refine Fn_enter Try.func19 rfl Try.ntmps19 rfl fun gw => ?_
  repeat (first | ((first | refine WL_Q ?_); (first | refine QW_a ?_)) | ((first | refine WL_op rfl ?_); (first | refine OW_callP rfl (hF := cut_nil) (hk := ?_))) | refine WL_nil ?_ | refine WC_seq ?_ | refine WC_ret ?_ | refine WC_region ?_)
  exact ⟨rfl, _, _, Res1 rfl (resV_tmp rfl), .refl _, rfl, rfl⟩
theorem numbers_nil : Fn Try.prog 35 [.pointer none] L (fun v L' => ∃ xb, v = .func (.func 58) #[] #[fP xb] ∧ L' = nBox xb :: L) := by
  refine Fn_enter Try.func35 rfl Try.ntmps35 rfl fun gw => ?_
  repeat (first | ((first | refine WL_Q ?_); (first | refine QW_a ?_)) | ((first | refine WL_op rfl ?_); (first | refine OW_box rfl (hk := fun _ => ?_))) | refine WL_nil ?_ | refine WC_seq ?_ | refine WC_ret ?_ | refine WC_region ?_)
  exact ⟨rfl, _, _, Res1 rfl (resV_tmp rfl), .refl _, _, rfl, rfl⟩
end
theorem numsN_ok {xb : Nat} : SeqI (.func (.func 58) #[] #[fP xb]) [nBox xb] [] (fun xs => xs = []) := by
  refine ⟨_, _, _, rfl, inferInstance, fun l J Jx h0S _ hY L0 h0 => ?_⟩
  refine Fn_enter Try.func58 rfl Try.ntmps58 rfl fun gw => ?_
  obtain ⟨i1, hi1⟩ := h0S L0 h0 (nBox xb) (by simp)
  repeat (first | ((first | refine WL_Q ?_); (first | refine QW_a ?_)) | refine WL_nil ?_ | refine WC_seq ?_ | refine WC_block ?_ | refine WC_cond_t (ht := ?_) | refine WC_cond_f (he := ?_) | refine WC_skip ?_ | refine WC_ret ?_ | refine WC_exit ?_ | refine WC_region ?_)
  exact ⟨rfl, _, _, Res0 rfl, .refl _, .inl ⟨[], rfl, h0⟩⟩
theorem nbox_at {xb : Nat} {L : List (Nat × Obj)} : ∀ q ∈ [nBox xb], ∃ i : Nat, (nBox xb :: L)[i]? = some q := fun q hq => by
  obtain rfl : q = _ := by simpa using hq
  exact ⟨0, rfl⟩
theorem files_nil {L : List (Nat × Obj)} : Fn Try.prog 13 [.pointer none] L (fun r L' => (∃ a c, r = .slice a 0 c) ∧ L' = L) := by
  refine Fn_enter Try.func13 rfl Try.ntmps13 rfl fun gw => ?_
  repeat (first | ((first | refine WL_Q ?_); (first | refine QW_a ?_)) | ((first | refine WL_op rfl ?_); (first | (refine OW_call rfl (hF := numbers_nil) (hk := ?_); rintro _ _ ⟨xb, rfl, rfl⟩) | (refine OW_call rfl (hF := collectI_fn (numsN_ok (xb := xb)) (fun xs h => by rw [h]; exact Nat.zero_le _) ⟨[], rfl⟩ nbox_at (by intro q hq; cases hq)) (hk := ?_); rintro v _ ⟨xs, T, rfl, hb, rfl⟩))) | refine WL_nil ?_ | refine WC_seq ?_ | refine WC_ret ?_ | refine WC_region ?_)
  obtain ⟨a, c, rfl, _, _⟩ := hb.val
  exact ⟨rfl, _, L, Res1 rfl (resV_tmp rfl), .trans (.cons _ (.refl _)) (List.sublist_append_right _ _), ⟨a, c, rfl⟩, rfl⟩
set_option maxHeartbeats 1000000 in
theorem crash_nil {a : Option Addr} {cn cc : Nat} {L : List (Nat × Obj)} : Fn Try.prog 23 [.pointer none, .slice a cn cc] L (fun r L' => r = .tuple #[] ∧ L' = L) := by
  refine Fn_enterM Try.func23 rfl Try.ntmps23 rfl fun gw => ?_
  repeat (first | ((first | refine WL_Q ?_); (first | refine QW_a ?_)) | ((first | refine WL_op rfl ?_); (first | refine OW_box rfl (hk := fun _ => ?_) | (refine OW_call rfl (hF := numbers_nil) (hk := ?_); rintro _ _ ⟨xb, rfl, rfl⟩))) | refine WL_nil ?_ | refine WC_seq ?_ | refine WC_block ?_ | refine WC_cond_t (ht := ?_) | refine WC_cond_f (he := ?_) | refine WC_skip ?_ | refine WC_region (id := 0) ?_ | refine WC_region (id := 1) ?_)
  rename_i x2 x3
  refine WC_wk [(9, .func (.func 58) #[] #[fP xb]), (2, fP x2), (3, fP x3)] ⟨rfl, rfl, rfl, trivial⟩ ?_
  refine WC_rangeX rfl (fun m : Int => [iV m]) (fun _ => rfl) rfl (fun pre y => ∃ post, ([] : List Int) = pre ++ y :: post) (fun xs => xs = [])
    (fun pre L' => L' = nBox xb :: chBox x3 (.slice a cn cc) :: nBox x2 :: L) (fun _ _ => False) ?_ ?_ ?_ ?_
  · intro l d o1 o2 Jx hr
    obtain ⟨_, _, _, e, _, hseq⟩ := numsN_ok (xb := xb)
    cases e
    refine (hseq l (fun pre L1 => L1 = (l, o1) :: (d, o2) :: nBox xb :: chBox x3 (.slice a cn cc) :: nBox x2 :: L) Jx ?_ ?_ ?_ _ rfl).mono ?_
    · rintro L rfl q hq
      obtain rfl : q = _ := by simpa using hq
      exact ⟨2, rfl⟩
    · intro _ _ _ q hq; cases hq
    · rintro X pre y L ⟨post, hd⟩ _
      exact absurd hd.symm (by simp)
    · rintro v L2 (⟨xs, hxs, h⟩ | h)
      · exact .inl ⟨xs, _, hxs, h, rfl⟩
      · exact .inr h
  · rintro X g' n' l d pre y L' ⟨post, hd⟩
    exact absurd hd.symm (by simp)
  · rintro d xs L' hout rfl
    exact ⟨_, ⟨d, 0, _, rfl, rfl, rfl, rfl⟩, _, _, Res0 rfl, .cons _ (.cons _ (.cons _ (.cons _ (.refl _)))), rfl, rfl⟩
  · intro _ _ _ h
    exact h.elim
end Go.Proofs.Ytmdiabglbmgkkaa
namespace Go.Proofs.Ytmdiabglbmgkkaa
open Go.Shelf Go.RowKit
def repRen : Ren where
  f := fun x => match x with
    | 99 => 24
    | 105 => 25
    | 165 => 47
    | 166 => 48
    | 169 => 50
    | 170 => 49
    | 206 => 45
    | 212 => 46
    | 240 => 66
    | 241 => 67
    | 263 => 64
    | 264 => 65
    | 276 => 73
    | 277 => 74
    | n => n
  t := fun x => match x with
    | 0 => 0
    | 3 => 3
    | 4 => 4
    | 5 => 5
    | 9 => 9
    | 20 => 20
    | 37 => 44
    | 46 => 83
    | 51 => 109
    | 53 => 112
    | 70 => 86
    | 72 => 88
    | 75 => 91
    | 76 => 92
    | 109 => 84
    | 127 => 115
    | 146 => 110
    | 148 => 113
    | 164 => 124
    | 80 => 94
    | n => n
  g := fun n => n
set_option maxRecDepth 100000 in
theorem repLaid : Lays.n105 Try.prog repRen where
  mixed := by kernel_rfl
  f99 := by kernel_rfl
  f105 := by kernel_rfl
  f165 := by kernel_rfl
  f166 := by kernel_rfl
  f169 := by kernel_rfl
  f170 := by kernel_rfl
  f206 := by kernel_rfl
  f212 := by kernel_rfl
  f240 := by kernel_rfl
  f241 := by kernel_rfl
  f263 := by kernel_rfl
  f264 := by kernel_rfl
  f276 := by kernel_rfl
  f277 := by kernel_rfl
  t0 := by kernel_rfl
  a0 := fun _ => by kernel_rfl
  z0 := fun _ => by kernel_rfl
  v0 := fun _ => by kernel_rfl
  t3 := by kernel_rfl
  a3 := fun _ => by kernel_rfl
  z3 := fun _ => by kernel_rfl
  v3 := fun _ => by kernel_rfl
  t4 := by kernel_rfl
  a4 := fun _ => by kernel_rfl
  z4 := fun _ => by kernel_rfl
  v4 := fun _ => by kernel_rfl
  t5 := by kernel_rfl
  a5 := fun _ => by kernel_rfl
  z5 := fun _ => by kernel_rfl
  v5 := fun _ => by kernel_rfl
  t9 := by kernel_rfl
  a9 := fun _ => by kernel_rfl
  z9 := fun _ => by kernel_rfl
  v9 := fun _ => by kernel_rfl
  t20 := by kernel_rfl
  a20 := fun _ => by kernel_rfl
  z20 := fun _ => by kernel_rfl
  v20 := fun _ => by kernel_rfl
  t37 := by kernel_rfl
  a37 := fun _ => by kernel_rfl
  z37 := fun _ => by kernel_rfl
  v37 := fun _ => by kernel_rfl
  t46 := by kernel_rfl
  a46 := fun _ => by kernel_rfl
  z46 := fun _ => by kernel_rfl
  v46 := fun _ => by kernel_rfl
  t51 := by kernel_rfl
  a51 := fun _ => by kernel_rfl
  z51 := fun _ => by kernel_rfl
  v51 := fun _ => by kernel_rfl
  t53 := by kernel_rfl
  a53 := fun _ => by kernel_rfl
  z53 := fun _ => by kernel_rfl
  v53 := fun _ => by kernel_rfl
  t70 := by kernel_rfl
  a70 := fun _ => by kernel_rfl
  z70 := fun _ => by kernel_rfl
  v70 := fun _ => by kernel_rfl
  t72 := by kernel_rfl
  a72 := fun _ => by kernel_rfl
  z72 := fun _ => by kernel_rfl
  v72 := fun _ => by kernel_rfl
  t75 := by kernel_rfl
  a75 := fun _ => by kernel_rfl
  z75 := fun _ => by kernel_rfl
  v75 := fun _ => by kernel_rfl
  t76 := by kernel_rfl
  a76 := fun _ => by kernel_rfl
  z76 := fun _ => by kernel_rfl
  v76 := fun _ => by kernel_rfl
  t109 := by kernel_rfl
  a109 := fun _ => by kernel_rfl
  z109 := fun _ => by kernel_rfl
  v109 := fun _ => by kernel_rfl
  t127 := by kernel_rfl
  a127 := fun _ => by kernel_rfl
  z127 := fun _ => by kernel_rfl
  v127 := fun _ => by kernel_rfl
  t146 := by kernel_rfl
  a146 := fun _ => by kernel_rfl
  z146 := fun _ => by kernel_rfl
  v146 := fun _ => by kernel_rfl
  t148 := by kernel_rfl
  a148 := fun _ => by kernel_rfl
  z148 := fun _ => by kernel_rfl
  v148 := fun _ => by kernel_rfl
  t164 := by kernel_rfl
  a164 := fun _ => by kernel_rfl
  z164 := fun _ => by kernel_rfl
  v164 := fun _ => by kernel_rfl
set_option maxRecDepth 100000 in
theorem repExtra : Builder.Extra Try.prog repRen where
  sizeBuilder := by kernel_rfl
  liesBuilder := by kernel_rfl
  t5 := by kernel_rfl
  a5 := fun _ => by kernel_rfl
  z5 := fun _ => by kernel_rfl
  v5 := fun _ => by kernel_rfl
  infoByte := by kernel_rfl
  cellsByte := by kernel_rfl
  sizeByte := by kernel_rfl
  neB5 := by decide
theorem rep_fn {u : UInt8} {n : Nat} (hn : n ≤ 1073741824) {L : List (Nat × Obj)} : Fn Try.prog 25 [.string (bstr [u]), .int .i64 n] L (fun r L' => r = .string (bstr (List.replicate n u)) ∧ L' = L) := fun g w hm => by
  have h := Any.strings_Repeat repLaid repExtra (bstr [u]) n w (by omega) (by rw [bstr_size]; simp; omega)
  refine h.mono fun e w' ⟨h1, h2⟩ => ⟨_, L, h1, ?_, ?_, rfl⟩
  · exact ⟨h2.os.trans hm.os, h2.tape.trans hm.tape, h2.output.trans hm.output, Nat.le_trans hm.size h2.size, hm.nodup, fun p hp => (h2.block p.1 (hm.lt p hp)).trans (hm.has p hp)⟩
  · have e : (bstr [u]).data.toList = List.replicate 1 u := by simp [bstr]
    rw [e, Lib.repeatL_replicate, Nat.mul_one]
    rfl
end Go.Proofs.Ytmdiabglbmgkkaa
namespace Go.Proofs.Ytmdiabglbmgkkaa
open Go.RowKit
def idxL : Nat → List Value → List (Nat × Value)
  | _, [] => []
  | k, x :: r => (k, x) :: idxL (k + 1) r
theorem fill_idx {n : Nat} : ∀ (xs : List Value) (k : Nat) (pre z : List Value), pre.length = k * n → z.length = xs.length * n → (∀ x ∈ xs, x.cells.size = n) →
    FilledA n (pre ++ z).toArray (idxL k xs) (pre ++ xs.flatMap fun x => x.cells.toList).toArray
  | [], k, pre, z, _, hz, _ => by
    have : z = [] := List.length_eq_zero_iff.1 (by simpa using hz)
    subst this
    show _ = _
    simp
  | x :: r, k, pre, z, hp, hz, hx => by
    have h1 := hx x (by simp)
    have h2 : z.length = r.length * n + n := by rw [hz, List.length_cons, Nat.succ_mul]
    refine ⟨h1, by rw [List.size_toArray, List.length_append]; omega, ?_⟩
    have ih := fill_idx (n := n) r (k + 1) (pre ++ x.cells.toList) (z.drop n) (by rw [List.length_append, hp, Nat.succ_mul, Array.length_toList, h1]) (by rw [List.length_drop]; omega) (fun y hy => hx y (by simp [hy]))
    have e : putR (pre ++ z).toArray (k * n) x.cells = ((pre ++ x.cells.toList) ++ z.drop n).toArray := by
      unfold putR
      rw [← hp, h1]
      simp only [List.take_left, List.drop_append, List.append_assoc]
      rw [List.drop_eq_nil_of_le (by omega), List.nil_append]
      congr 4
      omega
    rw [e]
    simpa using ih
theorem OW_buildS {c : Cx} {o : Oper} {Kn : St → Prop} {K : Exit → St → Prop} {s : List (Nat × Value)} {D : List Deferred} {L : List (Nat × Obj)} {t E n m by_ d : Nat} {z : Array Value} {parts : Array (Nat × Operand)} {xs : List Value} [hu : TUnd c.P t (.slice E)] [hrow : TRow c.P E z n by_] (ho : o.op = .buildSlice t m parts) (_hv : evs s (parts.toList.map fun q => q.2) = some xs := by exact rfl) (hx : evp s parts.toList = some (idxL 0 xs) := by exact rfl) (hm : xs.length = m := by exact rfl)
    (hk : ∀ b, Kn ⟨(d, .slice (some ⟨b, 0, none⟩) m m) :: s, D, (b, .cells (xs.flatMap fun x => x.cells.toList).toArray E) :: L⟩) (hc0 : (xs.all fun x => x.cells.size == n) = true := by exact rfl) (hn0 : Nat.ble 1 (m * n) = true := by exact rfl) (hn1 : Nat.ble (m * n) 16777216 = true := by exact rfl) (hdst : o.dst = some d := by exact rfl) (hd : Nat.blt d c.N = true := by exact rfl) : OW c o Kn K ⟨s, D, L⟩ := fun a w ha => by
  have hc : ∀ x ∈ xs, x.cells.size = n := fun x hx => by simpa using List.all_eq_true.1 hc0 x hx
  refine ⟨fun _ _ => trivial, ?_⟩
  obtain ⟨i, zz, h1, h2, h3, h4, h5, h6⟩ := hrow.h
  have hn0 := Nat.le_of_ble_eq_true hn0
  have hn1 := Nat.le_of_ble_eq_true hn1
  have hb := run_buildSlice (P := c.P) w t E m (parts.map fun (i, x) => (i, a.eval x)) (xs.flatMap fun x => x.cells.toList).toArray i zz hu.h h1 h2 (by rw [h4]; omega) (by rw [h4]; omega) (by
    rw [h4, Array.toList_map, evp_map (fun x u hu => ha.ev hu) hx]
    generalize hAe : (Array.range (m * n)).map (zz.cells[· % zz.cells.size]!) = A
    have hA : A.size = m * n := by rw [← hAe]; simp
    have hf := fill_of_FilledA (fill_idx (n := n) xs 0 [] A.toList (by simp) (by rw [Array.length_toList, hA, hm]) hc)
    rw [List.nil_append, List.nil_append, Array.toArray_toList] at hf
    exact hf)
  have hr : (execOp a.eval o).run c.P w = .ok (.value (.slice (some ⟨w.heap.size, 0, none⟩) m m)) (w.alloc (.cells (xs.flatMap fun x => x.cells.toList).toArray E)) := by
    simp [execOp, ho, hb]
  rw [Oper.semAt_eq _ _ _ (by rw [ho]; intro cc h; cases h), hr]
  refine ⟨_, ?_, hk w.heap.size⟩
  rw [hdst]
  exact (ha.mem' (ha.mem.alloc _)).put (d := some d) hd _
end Go.Proofs.Ytmdiabglbmgkkaa
namespace Go.Proofs.Ytmdiabglbmgkkaa
open Go.RowKit
theorem k0 : appG g0 (-1) [120] = g0 ∧ appG g0 5 [] = g0 ∧ syncG g0 5 = g0 ∧ cutG g0 5 0 = g0 := by
  refine ⟨rfl, ?_, rfl, rfl⟩
  exact upG_self g0 5
theorem k0e : appE g0 (-1) [120] = 2 ∧ appE g0 5 [] = 0 ∧ syncE g0 5 = 10 ∧ cutE g0 5 0 = 10 := ⟨rfl, rfl, rfl, rfl⟩
theorem upG_upG' (g : FG) (n : Int) (x y : List UInt8 × Nat) : upG (upG g n x) n y = upG g n y := by
  funext m; unfold upG
  by_cases h : m = n
  · rw [if_pos h, if_pos h]
  · rw [if_neg h, if_neg h, if_neg h]
theorem upG_at' (g : FG) (n : Int) (x : List UInt8 × Nat) : upG g n x n = x := by simp [upG]
section
variable {l : List UInt8} (hl : l.length = 1048576)
include hl
theorem ne_of_full : l ≠ [] := fun e => by rw [e] at hl; cases hl
theorem k1 : appE g0 2 l = 0 ∧ appG g0 2 l = upG g0 2 (l, 0) := by
  unfold appE appG
  rw [if_neg (by decide), if_neg (by simp [hl]), if_neg (by decide), if_neg (by simp [hl])]
  exact ⟨rfl, rfl⟩
theorem k2 : appE (upG g0 2 (l, 0)) 2 [121] = 8 ∧ appG (upG g0 2 (l, 0)) 2 [121] = upG g0 2 (l, 0) := by
  unfold appE appG
  rw [upG_at', if_neg (by decide), if_pos (by simp [hl]), if_neg (by decide), if_pos (by simp [hl])]
  exact ⟨rfl, rfl⟩
theorem k3 : appE (upG g0 2 (l, 0)) 2 [] = 0 ∧ appG (upG g0 2 (l, 0)) 2 [] = upG g0 2 (l, 0) := by
  unfold appE appG
  rw [upG_at', if_neg (by decide), if_neg (by simp [hl]), if_neg (by decide), if_neg (by simp [hl]), List.append_nil, upG_upG']
  exact ⟨rfl, rfl⟩
theorem k4 : cutE (upG g0 2 (l, 0)) 2 (-1) = 2 ∧ cutG (upG g0 2 (l, 0)) 2 (-1) = upG g0 2 (l, 0) := by
  have e : cutE (upG g0 2 (l, 0)) 2 (-1) = 2 := by
    unfold cutE
    rw [upG_at', if_neg (ne_of_full hl), if_pos (.inl (by decide))]
  exact ⟨e, by unfold cutG; rw [e]; rfl⟩
theorem k5 : cutE (upG g0 2 (l, 0)) 2 1048577 = 2 ∧ cutG (upG g0 2 (l, 0)) 2 1048577 = upG g0 2 (l, 0) := by
  have e : cutE (upG g0 2 (l, 0)) 2 1048577 = 2 := by
    unfold cutE
    rw [upG_at', if_neg (ne_of_full hl), if_pos (.inr (by rw [hl]; decide))]
  exact ⟨e, by unfold cutG; rw [e]; rfl⟩
theorem k6 : cutE (upG g0 2 (l, 0)) 2 1048575 = 0 ∧ cutG (upG g0 2 (l, 0)) 2 1048575 = upG g0 2 (l.take 1048575, 1048575) := by
  have e : cutE (upG g0 2 (l, 0)) 2 1048575 = 0 := by
    unfold cutE
    rw [upG_at', if_neg (ne_of_full hl), if_neg (by rw [hl]; decide)]
  refine ⟨e, ?_⟩
  unfold cutG
  rw [if_pos e, upG_at', upG_upG']
  rfl
end
theorem k7 {l : List UInt8} (hl : l.length = 1048575) : appE (upG g0 2 (l, 1048575)) 2 [121] = 0 ∧ appG (upG g0 2 (l, 1048575)) 2 [121] = upG g0 2 (l ++ [121], 1048575) := by
  unfold appE appG
  rw [upG_at', if_neg (by decide), if_neg (by simp [hl]), if_neg (by decide), if_neg (by simp [hl]), upG_upG']
  exact ⟨rfl, rfl⟩
abbrev abc : List UInt8 := [97, 98, 99]
abbrev gz (l : List UInt8) : FG := upG (upG (upG g0 2 (l, 1048575)) 7 (abc, 0)) 9 (abc, 0)
theorem k8 (l : List UInt8) : appG (appG (upG g0 2 (l, 1048575)) 7 abc) 9 abc = gz l := rfl
theorem gz_few (l : List UInt8) : ∀ n, (gz l n).1 ≠ [] → 0 ≤ n ∧ n < 12 := fun n hn => by
  unfold gz upG at hn
  by_cases h9 : n = 9
  · omega
  · rw [if_neg h9] at hn
    by_cases h7 : n = 7
    · omega
    · rw [if_neg h7] at hn
      by_cases h2 : n = 2
      · omega
      · rw [if_neg h2] at hn; exact absurd rfl hn
theorem gz_keys {l : List UInt8} (hl : l ≠ []) (n : Int) : n ∈ ([2, 7, 9] : List Int) ↔ (gz l n).1 ≠ [] := by
  unfold gz upG
  by_cases h9 : n = 9
  · rw [if_pos h9, h9]; simp
  · rw [if_neg h9]
    by_cases h7 : n = 7
    · rw [if_pos h7, h7]; simp
    · rw [if_neg h7]
      by_cases h2 : n = 2
      · rw [if_pos h2, h2]; simp [hl]
      · rw [if_neg h2]; simp [h9, h7, h2]
theorem crash1_some {g : FG} {c : UInt8} {ch : List UInt8} {n : Int} {l : List UInt8} {m k : Nat} (hg : g n = (l, m)) (hm : m < l.length) (hk : m + c.toNat % (l.length - m + 1) = k) : crash1 (g, c :: ch) n = (upG g n (l.take k, k), ch) := by
  have hm' : (g n).2 < (g n).1.length := by rw [hg]; exact hm
  unfold crash1
  dsimp only
  rw [if_pos hm', hg]
  dsimp only
  rw [hk]
theorem gz_crash {l : List UInt8} (hl : l.length = 1048576) : crashes [2, 7, 9] (gz l) [1, 5, 4] = (upG (upG (upG (gz l) 2 (l, 1048576)) 7 ([97], 1)) 9 ([], 0), []) := by
  have e1 : crash1 (gz l, [1, 5, 4]) 2 = (upG (gz l) 2 (l.take 1048576, 1048576), [5, 4]) := crash1_some (m := 1048575) rfl (by omega) (by rw [hl]; rfl)
  rw [show l.take 1048576 = l from List.take_of_length_le (by omega)] at e1
  have e2 : crash1 (upG (gz l) 2 (l, 1048576), [5, 4]) 7 = (upG (upG (gz l) 2 (l, 1048576)) 7 ([97], 1), [4]) := crash1_some (l := abc) (m := 0) (k := 1) rfl (by decide) rfl
  have e3 : crash1 (upG (upG (gz l) 2 (l, 1048576)) 7 ([97], 1), [4]) 9 = (upG (upG (upG (gz l) 2 (l, 1048576)) 7 ([97], 1)) 9 ([], 0), []) := crash1_some (l := abc) (m := 0) (k := 0) rfl (by decide) rfl
  unfold crashes
  rw [List.foldl_cons, e1, List.foldl_cons, e2, List.foldl_cons, e3]
  rfl
theorem ByAt.three (b E : Nat) (fr : Nat × Nat) (u v w : UInt8) (L : List (Nat × Obj)) : ByAt ((b, .cells #[bV u, bV v, bV w] E fr) :: L) (.slice (some ⟨b, 0, none⟩) 3 3) [u, v, w] :=
  ⟨rfl, _, 3, rfl, Nat.le_refl _, by decide, .inr ⟨b, 0, _, E, fr, 0, rfl, rfl, fun j x hj => by rw [Nat.zero_add]; simpa using hj⟩⟩
attribute [local irreducible] Fn WC WL WR OW Qt YieldFn QW
set_option maxHeartbeats 8000000 in
set_option maxRecDepth 100000 in
theorem known15_fn {L : List (Nat × Obj)} : Fn Try.prog 6 [] L (fun v L' => v = .bool true ∧ L' = L) := by
  obtain ⟨p1, p2, p3, p4⟩ := k0
  obtain ⟨e1, e2, e3, e4⟩ := k0e
  refine Fn_enter Try.func6 rfl Try.ntmps6 rfl fun gw => ?_
  repeat (first | ((first | refine WL_Q ?_); (first | refine QW_a ?_)) | ((first | refine WL_op rfl ?_); (first | refine OW_build1 rfl (hk := fun _ => ?_) | refine OW_callP rfl (hF := read_nil) (hk := ?_) | refine OW_callP rfl (hF := crash_nil) (hk := ?_))) | refine WL_nil ?_ | refine WC_seq ?_ | refine WC_cond_t (ht := ?_) | refine WC_cond_f (he := ?_) | refine WC_skip ?_ | refine WC_ret ?_ | refine WC_region (id := 0) ?_ | refine WC_region (id := 1) ?_ | refine WC_region (id := 2) ?_ | refine WC_region (id := 3) ?_)
  refine WC_dropL L (.cons _ (.refl _)) ?_
  repeat (first | ((first | refine WL_Q ?_); (first | refine QW_a ?_)) | ((first | refine WL_op rfl ?_); (first | (refine OW_call rfl (hF := new_fn) (hk := ?_); rintro _ _ ⟨sb, S0, rfl, rfl, h0⟩))) | refine WL_nil ?_ | refine WC_seq ?_ | refine WC_cond_t (ht := ?_) | refine WC_cond_f (he := ?_) | refine WC_skip ?_ | refine WC_ret ?_ | refine WC_region (id := 4) ?_ | refine WC_region (id := 5) ?_ | refine WC_region (id := 7) ?_)
  refine WL_op rfl (OW_call rfl (hF := append_st (n := -1) (b := [120]) h0 (by decide)) (hk := ?_))
  rintro _ _ ⟨rfl, S1, rfl, h1⟩
  rw [e1]
  rw [p1] at h1
  clear h0
  repeat (first | ((first | refine WL_Q ?_); (first | refine QW_a ?_)) | refine WL_nil ?_ | refine WC_seq ?_ | refine WC_cond_t (ht := ?_) | refine WC_cond_f (he := ?_) | refine WC_skip ?_ | refine WC_ret ?_ | refine WC_region (id := 7) ?_)
  refine WL_op rfl (OW_call rfl (hF := append_st (n := 5) (b := []) h1 (by decide)) (hk := ?_))
  rintro _ _ ⟨rfl, S2, rfl, h2⟩
  rw [e2]
  rw [p2] at h2
  clear h1
  repeat (first | ((first | refine WL_Q ?_); (first | refine QW_a ?_)) | refine WL_nil ?_ | refine WC_seq ?_ | refine WC_cond_t (ht := ?_) | refine WC_cond_f (he := ?_) | refine WC_skip ?_ | refine WC_ret ?_ | refine WC_region (id := 7) ?_ | refine WC_region (id := 8) ?_)
  refine WL_op rfl (OW_call rfl (hF := sync_st (n := 5) h2) (hk := ?_))
  rintro _ _ ⟨rfl, S3, rfl, h3⟩
  rw [e3]
  rw [p3] at h3
  clear h2
  repeat (first | ((first | refine WL_Q ?_); (first | refine QW_a ?_)) | refine WL_nil ?_ | refine WC_seq ?_ | refine WC_cond_t (ht := ?_) | refine WC_cond_f (he := ?_) | refine WC_skip ?_ | refine WC_ret ?_ | refine WC_region (id := 8) ?_)
  refine WL_op rfl (OW_call rfl (hF := cut_st (n := 5) (many := 0) h3) (hk := ?_))
  rintro _ _ ⟨rfl, S4, rfl, h4⟩
  rw [e4]
  rw [p4] at h4
  clear h3
  repeat (first | ((first | refine WL_Q ?_); (first | refine QW_a ?_)) | refine WL_nil ?_ | refine WC_seq ?_ | refine WC_cond_t (ht := ?_) | refine WC_cond_f (he := ?_) | refine WC_skip ?_ | refine WC_ret ?_ | refine WC_region (id := 8) ?_)
  refine WL_op rfl (OW_call rfl (hF := remove_st (n := 5) h4) (hk := ?_))
  rintro _ _ ⟨rfl, S5, rfl, h5⟩
  rw [e4]
  rw [p4] at h5
  clear h4
  repeat (first | ((first | refine WL_Q ?_); (first | refine QW_a ?_)) | ((first | refine WL_op rfl ?_); (first | refine OW_callP rfl (hF := read_st (n := 5) h5) (hk := ?_))) | refine WL_nil ?_ | refine WC_seq ?_ | refine WC_cond_t (ht := ?_) | refine WC_cond_f (he := ?_) | refine WC_skip ?_ | refine WC_ret ?_ | refine WC_region (id := 8) ?_ | refine WC_region (id := 9) ?_)
  rw [e3]
  repeat (first | ((first | refine WL_Q ?_); (first | refine QW_a ?_)) | ((first | refine WL_op rfl ?_); (first | refine OW_callP rfl (hF := rep_fn (u := 120) (n := 1048576) (by decide)) (hk := ?_) | refine OW_callP rfl (hF := read_st (n := 5) h5) (hk := ?_))) | refine WL_nil ?_ | refine WC_seq ?_ | refine WC_cond_t (ht := ?_) | refine WC_cond_f (he := ?_) | refine WC_skip ?_ | refine WC_ret ?_ | refine WC_region (id := 9) ?_ | refine WC_region (id := 10) ?_)
  generalize hfl : List.replicate 1048576 (120 : UInt8) = l
  have hl : l.length = 1048576 := by rw [← hfl]; exact List.length_replicate
  clear hfl
  obtain ⟨a1, b1⟩ := k1 hl
  obtain ⟨a2, b2⟩ := k2 hl
  obtain ⟨a3, b3⟩ := k3 hl
  obtain ⟨a4, b4⟩ := k4 hl
  obtain ⟨a5, b5⟩ := k5 hl
  obtain ⟨a6, b6⟩ := k6 hl
  obtain ⟨a7, b7⟩ := k7 (l := l.take 1048575) (by rw [List.length_take]; omega)
  have hl2 : (l.take 1048575 ++ [121]).length = 1048576 := by rw [List.length_append, List.length_take]; simp; omega
  repeat (first | ((first | refine WL_Q ?_); (first | refine QW_a ?_)) | refine WL_nil ?_ | refine WC_seq ?_ | refine WC_cond_t (ht := ?_) | refine WC_cond_f (he := ?_) | refine WC_skip ?_ | refine WC_ret ?_ | refine WC_region (id := 11) ?_)
  refine WL_op rfl (OW_call rfl (hF := append_st (n := 2) (b := l) h5 (by omega)) (hk := ?_))
  rintro _ _ ⟨rfl, S6, rfl, h6⟩
  rw [a1]
  rw [b1] at h6
  clear h5
  repeat (first | ((first | refine WL_Q ?_); (first | refine QW_a ?_)) | refine WL_nil ?_ | refine WC_seq ?_ | refine WC_cond_t (ht := ?_) | refine WC_cond_f (he := ?_) | refine WC_skip ?_ | refine WC_ret ?_ | refine WC_region (id := 11) ?_)
  refine WL_op rfl (OW_call rfl (hF := append_st (n := 2) (b := [121]) h6 (by decide)) (hk := ?_))
  rintro _ _ ⟨rfl, S7, rfl, h7⟩
  rw [a2]
  rw [b2] at h7
  clear h6
  repeat (first | ((first | refine WL_Q ?_); (first | refine QW_a ?_)) | refine WL_nil ?_ | refine WC_seq ?_ | refine WC_cond_t (ht := ?_) | refine WC_cond_f (he := ?_) | refine WC_skip ?_ | refine WC_ret ?_ | refine WC_region (id := 11) ?_)
  refine WL_op rfl (OW_call rfl (hF := append_st (n := 2) (b := []) h7 (by decide)) (hk := ?_))
  rintro _ _ ⟨rfl, S8, rfl, h8⟩
  rw [a3]
  rw [b3] at h8
  clear h7
  repeat (first | ((first | refine WL_Q ?_); (first | refine QW_a ?_)) | refine WL_nil ?_ | refine WC_seq ?_ | refine WC_cond_t (ht := ?_) | refine WC_cond_f (he := ?_) | refine WC_skip ?_ | refine WC_ret ?_ | refine WC_region (id := 11) ?_ | refine WC_region (id := 12) ?_)
  refine WL_op rfl (OW_call rfl (hF := cut_st (n := 2) (many := -1) h8) (hk := ?_))
  rintro _ _ ⟨rfl, S9, rfl, h9⟩
  rw [a4]
  rw [b4] at h9
  clear h8
  repeat (first | ((first | refine WL_Q ?_); (first | refine QW_a ?_)) | refine WL_nil ?_ | refine WC_seq ?_ | refine WC_cond_t (ht := ?_) | refine WC_cond_f (he := ?_) | refine WC_skip ?_ | refine WC_ret ?_ | refine WC_region (id := 12) ?_)
  refine WL_op rfl (OW_call rfl (hF := cut_st (n := 2) (many := 1048577) h9) (hk := ?_))
  rintro _ _ ⟨rfl, S10, rfl, h10⟩
  rw [a5]
  rw [b5] at h10
  clear h9
  repeat (first | ((first | refine WL_Q ?_); (first | refine QW_a ?_)) | refine WL_nil ?_ | refine WC_seq ?_ | refine WC_cond_t (ht := ?_) | refine WC_cond_f (he := ?_) | refine WC_skip ?_ | refine WC_ret ?_ | refine WC_region (id := 12) ?_ | refine WC_region (id := 13) ?_)
  refine WL_op rfl (OW_call rfl (hF := cut_st (n := 2) (many := 1048575) h10) (hk := ?_))
  rintro _ _ ⟨rfl, S11, rfl, h11⟩
  rw [a6]
  rw [b6] at h11
  clear h10
  repeat (first | ((first | refine WL_Q ?_); (first | refine QW_a ?_)) | refine WL_nil ?_ | refine WC_seq ?_ | refine WC_cond_t (ht := ?_) | refine WC_cond_f (he := ?_) | refine WC_skip ?_ | refine WC_ret ?_ | refine WC_region (id := 13) ?_)
  refine WL_op rfl (OW_call rfl (hF := append_st (n := 2) (b := [121]) h11 (by decide)) (hk := ?_))
  rintro _ _ ⟨rfl, S12, rfl, h12⟩
  rw [a7]
  rw [b7] at h12
  clear h11
  generalize l.take 1048575 ++ [121] = l2 at h12 hl2
  repeat (first | ((first | refine WL_Q ?_); (first | refine QW_a ?_)) | refine WL_nil ?_ | refine WC_seq ?_ | refine WC_cond_t (ht := ?_) | refine WC_cond_f (he := ?_) | refine WC_skip ?_ | refine WC_ret ?_ | refine WC_region (id := 13) ?_ | refine WC_region (id := 14) ?_)
  refine WL_op rfl (OW_call rfl (hF := append_st (n := 7) (b := abc) h12 (by decide)) (hk := ?_))
  rintro _ _ ⟨rfl, S13, rfl, h13⟩
  clear h12
  repeat (first | ((first | refine WL_Q ?_); (first | refine QW_a ?_)) | refine WL_nil ?_ | refine WC_seq ?_ | refine WC_cond_t (ht := ?_) | refine WC_cond_f (he := ?_) | refine WC_skip ?_ | refine WC_ret ?_ | refine WC_region (id := 14) ?_ | refine WC_region (id := 15) ?_)
  refine WL_op rfl (OW_call rfl (hF := append_st (n := 9) (b := abc) h13 (by decide)) (hk := ?_))
  rintro _ _ ⟨rfl, S14, rfl, h14⟩
  rw [k8] at h14
  clear h13
  repeat (first | ((first | refine WL_Q ?_); (first | refine QW_a ?_)) | ((first | refine WL_op rfl ?_); (first | refine OW_callP rfl (hF := crash_nil) (hk := ?_))) | refine WL_nil ?_ | refine WC_seq ?_ | refine WC_cond_t (ht := ?_) | refine WC_cond_f (he := ?_) | refine WC_skip ?_ | refine WC_ret ?_ | refine WC_region (id := 15) ?_ | refine WC_region (id := 16) ?_)
  refine WL_op rfl (OW_buildS rfl (hk := ?_))
  intro cb
  refine WL_permA (L' := S14 ++ ((cb, .cells #[bV 1, bV 5, bV 4] 5 (0, 0)) :: L)) List.perm_middle ?_
  refine WL_op rfl (OW_call rfl (hF := crash_st h14 (gz_few l2) (ByAt.three cb 5 (0, 0) 1 5 4 L)) (hk := ?_))
  rintro _ _ ⟨rfl, xs, S15, r1, r2, r3, rfl, h15⟩
  obtain rfl : xs = [2, 7, 9] := rise_eq r1 (by unfold Rise; decide) r2 (by decide) fun n => (r3 n).trans (gz_keys (ne_of_full hl2) n).symm
  rw [gz_crash hl2] at h15
  dsimp only at h15
  clear h14 r1 r2 r3
  have m1 : (upG (upG (upG (gz l2) 2 (l2, 1048576)) 7 ([97], 1)) 9 ([], 0)) 7 = ([97], 1) := rfl
  have m2 : (upG (upG (upG (gz l2) 2 (l2, 1048576)) 7 ([97], 1)) 9 ([], 0)) 9 = ([], 0) := rfl
  have m3 : ((upG (upG (upG (gz l2) 2 (l2, 1048576)) 7 ([97], 1)) 9 ([], 0)) 2).2 = 1048576 := rfl
  generalize upG (upG (upG (gz l2) 2 (l2, 1048576)) 7 ([97], 1)) 9 ([], 0) = gl at h15 m1 m2 m3
  refine WL_dropS (L' := S15 ++ L) (.append (.refl _) (.cons _ (.refl _))) ?_
  repeat (first | ((first | refine WL_Q ?_); (first | refine QW_a ?_)) | ((first | refine WL_op rfl ?_); (first | refine OW_callP rfl (hF := crash_nil) (hk := ?_))) | refine WL_nil ?_ | refine WC_seq ?_ | refine WC_cond_t (ht := ?_) | refine WC_cond_f (he := ?_) | refine WC_skip ?_ | refine WC_ret ?_ | refine WC_region (id := 16) ?_)
  refine WC_wk [(1, .pointer none), (3, .int .i64 1), (4, fP sb), (5, .int .i64 2), (6, .int .i64 0), (7, .int .i64 10), (8, .int .i64 10), (9, .int .i64 10), (11, .int .i64 10), (13, .int .i64 0), (14, .int .i64 8), (15, .int .i64 0), (16, .int .i64 2), (17, .int .i64 2), (18, .int .i64 0), (19, .int .i64 0)] (by repeat (first | exact trivial | refine ⟨rfl, ?_⟩)) ?_
  repeat (first | ((first | refine WL_Q ?_ | refine WL_Y ?_); (first | refine QW_a ?_)) | ((first | refine WL_op rfl ?_ | refine WL_yes (h := ?_)); (first | refine OW_callP rfl (hF := works15_fn) (hk := ?_) | refine OW_callP rfl (hF := append_nil (b := [])) (hk := ?_) | refine OW_callP rfl (hF := sync_nil) (hk := ?_) | refine OW_callP rfl (hF := cut_nil) (hk := ?_) | refine OW_callP rfl (hF := remove_nil) (hk := ?_) | refine OW_callP rfl (hF := synced_nil) (hk := ?_) | refine OW_callP rfl (hF := copy_nil) (hk := ?_) | (refine OW_call rfl (hF := files_nil) (hk := ?_); rintro _ _ ⟨⟨af, cf, rfl⟩, rfl⟩))) | refine WL_nil ?_ | refine WL_un (h := ?_) | refine WL_N ?_ | refine WL_M ?_ | refine WC_seq ?_ | refine WC_cond_t (ht := ?_) | refine WC_cond_f (he := ?_) | refine WC_skip ?_ | refine WC_ret ?_ | refine WC_app (id := 17) (by simp only [List.append]; rfl) ?_ | refine WC_region (id := 17) ?_)
  have r7 : ((gl 7).1 == [97]) = true := by rw [m1]; rfl
  have r9 : ((gl 9).1 == []) = true := by rw [m2]; rfl
  have r2 : ((((gl 2).2 : Nat) : Int) == 1048576) = true := by rw [m3]; rfl
  refine WL_yes rfl rfl rfl rfl rfl (OW_callP rfl (hF := reads_st (n := 7) (b := [97]) h15) (hk := ?_))
  repeat (first | ((first | refine WL_Q ?_ | refine WL_Y ?_); (first | refine QW_a ?_)) | ((first | refine WL_op rfl ?_ | refine WL_yes (h := ?_)); (first | refine OW_callP rfl (hF := works15_fn) (hk := ?_) | refine OW_callP rfl (hF := append_nil (b := [])) (hk := ?_) | refine OW_callP rfl (hF := sync_nil) (hk := ?_) | refine OW_callP rfl (hF := cut_nil) (hk := ?_) | refine OW_callP rfl (hF := remove_nil) (hk := ?_) | refine OW_callP rfl (hF := synced_nil) (hk := ?_) | refine OW_callP rfl (hF := copy_nil) (hk := ?_) | (refine OW_call rfl (hF := files_nil) (hk := ?_); rintro _ _ ⟨⟨af, cf, rfl⟩, rfl⟩))) | refine WL_nil ?_ | refine WL_un (h := ?_) | refine WL_N ?_ | refine WL_M ?_ | refine WC_seq ?_ | refine WC_cond_t (ht := ?_) | refine WC_cond_f (he := ?_) | refine WC_skip ?_ | refine WC_ret ?_ | refine WC_app (id := 17) (by simp only [List.append]; rfl) ?_ | refine WC_region (id := 17) ?_)
  refine WL_yes rfl rfl rfl r7 rfl (OW_callP rfl (hF := reads_st (n := 9) (b := []) h15) (hk := ?_))
  repeat (first | ((first | refine WL_Q ?_ | refine WL_Y ?_); (first | refine QW_a ?_)) | ((first | refine WL_op rfl ?_ | refine WL_yes (h := ?_)); (first | refine OW_callP rfl (hF := works15_fn) (hk := ?_) | refine OW_callP rfl (hF := append_nil (b := [])) (hk := ?_) | refine OW_callP rfl (hF := sync_nil) (hk := ?_) | refine OW_callP rfl (hF := cut_nil) (hk := ?_) | refine OW_callP rfl (hF := remove_nil) (hk := ?_) | refine OW_callP rfl (hF := synced_nil) (hk := ?_) | refine OW_callP rfl (hF := copy_nil) (hk := ?_) | (refine OW_call rfl (hF := files_nil) (hk := ?_); rintro _ _ ⟨⟨af, cf, rfl⟩, rfl⟩))) | refine WL_nil ?_ | refine WL_un (h := ?_) | refine WL_N ?_ | refine WL_M ?_ | refine WC_seq ?_ | refine WC_cond_t (ht := ?_) | refine WC_cond_f (he := ?_) | refine WC_skip ?_ | refine WC_ret ?_ | refine WC_app (id := 17) (by simp only [List.append]; rfl) ?_ | refine WC_region (id := 17) ?_)
  refine WL_yes rfl rfl rfl r9 rfl (OW_callP rfl (hF := synced_st (n := 2) h15) (hk := ?_))
  repeat (first | ((first | refine WL_Q ?_ | refine WL_Y ?_); (first | refine QW_a ?_)) | ((first | refine WL_op rfl ?_ | refine WL_yes (h := ?_)); (first | refine OW_callP rfl (hF := works15_fn) (hk := ?_) | refine OW_callP rfl (hF := append_nil (b := [])) (hk := ?_) | refine OW_callP rfl (hF := sync_nil) (hk := ?_) | refine OW_callP rfl (hF := cut_nil) (hk := ?_) | refine OW_callP rfl (hF := remove_nil) (hk := ?_) | refine OW_callP rfl (hF := synced_nil) (hk := ?_) | refine OW_callP rfl (hF := copy_nil) (hk := ?_) | (refine OW_call rfl (hF := files_nil) (hk := ?_); rintro _ _ ⟨⟨af, cf, rfl⟩, rfl⟩))) | refine WL_nil ?_ | refine WL_un (h := ?_) | refine WL_N ?_ | refine WL_M ?_ | refine WC_seq ?_ | refine WC_cond_t (ht := ?_) | refine WC_cond_f (he := ?_) | refine WC_skip ?_ | refine WC_ret ?_ | refine WC_app (id := 17) (by simp only [List.append]; rfl) ?_ | refine WC_region (id := 17) ?_)
  exact ⟨rfl, _, L, Res1 rfl (resV_tmp rfl), List.sublist_append_right _ _, by rw [r2], rfl⟩
end Go.Proofs.Ytmdiabglbmgkkaa
namespace Go.Proofs.Ytmdiabglbmgkkaa
open Go.ChangeShapes Go.WideShapes Go.ChangeAt Go.RowKit
theorem ownOf : ownKnob Try.prog.godebug = none := by kernel_rfl
theorem laidOf : laidOutB Try.prog = true := by kernel_rfl
def allL (W : World) : List (Nat × Obj) := W.heap.toList.zipIdx.map fun p => (p.2, p.1)
theorem allL_get {W : World} {b : Nat} {o : Obj} (h : W.heap[b]? = some o) : (allL W)[b]? = some (b, o) := by
  simp [allL, h]
theorem allL_mem {W : World} {p : Nat × Obj} : p ∈ allL W → W.heap[p.1]? = some p.2 := fun h => by
  simp only [allL, List.mem_map] at h
  obtain ⟨⟨o, b⟩, h1, rfl⟩ := h
  have := List.mem_zipIdx_iff_getElem?.1 h1
  simpa using this
theorem allL_mem_of {W : World} {b : Nat} {o : Obj} (h : W.heap[b]? = some o) : (b, o) ∈ allL W := List.mem_of_getElem? (allL_get h)
theorem mem_allL (W : World) : Mem W (allL W) W where
  os := rfl
  tape := rfl
  output := rfl
  size := Nat.le_refl _
  nodup := by
    have : (allL W).map Prod.fst = List.range W.heap.size := by
      simp only [allL, List.map_map]
      apply List.ext_getElem?
      intro i
      simp only [List.getElem?_map, List.getElem?_zipIdx, Array.getElem?_toList]
      by_cases h : i < W.heap.size
      · simp [h]
      · simp [h]
    rw [this]; exact List.nodup_range
  has := fun _ h => allL_mem h
theorem below_of_mem {W W' : World} (h : Mem W (allL W) W') : Below W.heap.size W W' where
  os := h.os
  tape := h.tape
  output := h.output
  size := h.size
  block := fun k hk => by
    have h1 : W.heap[k]? = some W.heap[k] := Array.getElem?_eq_getElem hk
    rw [h1]
    exact h.has (k, W.heap[k]) (allL_mem_of h1)
theorem trodAll_stays {H : Type} {enc : TypeId × Value → H} {P : Program} (hl : laidOutB P = true) {W W' : World} (hb : Below W.heap.size W W') : ∀ {ts : List TypeId} {vs : List Value} {ds : List (DataW H)} {ps : List MemPlace},
    (∀ t ∈ ts, P.readableRec t = true ∧ t < P.types.size) → DataW.TrodAll enc P W 0 (fun _ => true) true ts vs ds ps → (∀ x ∈ ps, x.block < W.heap.size) → DataW.TrodAll enc P W' 0 (fun b => decide (b < W.heap.size)) true ts vs ds ps
  | [], _, _, _, _, h, _ => by obtain ⟨rfl, rfl, rfl⟩ := trodAll_nil h; exact trodAll_mk0
  | t :: ts, _, _, _, ht, h, hp => by
    obtain ⟨v, vs', d, ds', p, q, rfl, rfl, rfl, h1, h2⟩ := trodAll_cons h
    have h3 := ht t (by simp)
    exact ⟨p, q, Below.trod hl h3.1 h3.2 h1 hb (fun x hx => hp x (by simp [hx])), trodAll_stays hl hb (fun t' h' => ht t' (by simp [h'])) h2 (fun x hx => hp x (by simp [hx])), rfl⟩
theorem post_law {H : Type} {enc : TypeId × Value → H} {P : Program} {f : Func} {s : ChangeSpec} {W W' : World} {args : Array Value} {ds gs : List (DataW H)} {before : List MemPlace} {tb : TypeId} (hl : laidOutB P = true)
    (hts : (f.params.toList.all fun t => P.readableRec t && decide (t < P.types.size)) = true) (hv : s.vars = []) (hr : f.resultTypes = #[tb]) (hb : P.underlying tb = some .bool)
    (hfn : s.fn H (ds ++ gs) = { results := [.lit (.bool true)], args := ds }) (hW : DataW.Whole enc P f.params.toList s.vars false W args.toList ds gs before) (hbel : Below W.heap.size W W') :
    s.post enc P f false true false false W args (.bool true) W' := by
  have hlt := hW.lt
  have hW' := hW
  obtain ⟨p, q, hA, hV, rfl, _, _⟩ := hW
  rw [hv] at hV
  obtain ⟨rfl, rfl⟩ := trodVars_none hV
  have hts' : ∀ t ∈ f.params.toList, P.readableRec t = true ∧ t < P.types.size := fun t ht => by
    have := List.all_eq_true.1 hts t ht
    simpa using this
  refine ⟨ds, [], p ++ [], [], p, [], hW', ?_, ?_, ?_, hbel.frame _, fun h => by cases h⟩
  · rw [hfn, hr]
    exact trodAll_mk1 (shut_bool hb true)
  · rw [hfn]
    exact trodAll_stays hl hbel hts' hA (fun x hx => by simpa using hlt x (by simp [hx]))
  · rw [hfn, hv]; rfl
theorem lifted {C : Checked} {os : Os} {H : Type} {enc : TypeId × Value → H} {f : FuncId} {fn : Func} {s : ChangeSpec} {tb : TypeId} (own : ownKnob C.prog.godebug = none) (started : os.Started) (noInit : C.prog.inits.idxOf? f = none) (hfn : C.prog.funcs[f]? = some fn)
    (witness : ∃ (w : World) (tape : Tape) (i : Input), w.os = os ∧ (w.forCall tape i).Shaped C.prog ∧ i.vars = [] ∧ Input.okWide C.prog (w.forCall tape i) .any w.heap.size f i ∧ s.pre6 enc C.prog fn [] false (w.forCall tape i).memory i.args ∧ ({} : Assume).holds C.prog (lone (Frame.enter C.prog f i.args .normal) [] (w.forCall tape i)))
    (hl : laidOutB C.prog = true) (hts : (fn.params.toList.all fun t => C.prog.readableRec t && decide (t < C.prog.types.size)) = true) (hv : s.vars = []) (hr : fn.resultTypes = #[tb]) (hb : C.prog.underlying tb = some .bool)
    (hspec : ∀ ds : List (DataW H), ds.length = fn.params.size → s.fn H ds = { results := [.lit (.bool true)], args := ds })
    (h : ∀ (W : World) (base : Nat) (args : Array Value) (ds : List (DataW H)) (ps : List MemPlace), (∀ (j : Nat) t v, fn.params[j]? = some t → args[j]? = some v → Value.okWide C.prog W .any base t v) →
      DataW.TrodAll enc C.prog W 0 (fun _ => true) true fn.params.toList args.toList ds ps → W.noneFrozen ps → Fn C.prog f args.toList (allL W) fun v L' => v = .bool true ∧ L' = allL W) :
    ReturnsInHanded {} C os f .any (s.pre6 enc C.prog fn [] false) (s.post enc C.prog fn false true false false) := by
  refine returnsInHanded_of_change (C := C) own started noInit hfn witness ?_
  intro W base args ds gs before hval hW _ _
  have hW' := hW
  obtain ⟨p, q, hA, hV, rfl, hfz, _⟩ := hW
  rw [hv] at hV
  obtain ⟨rfl, rfl⟩ := trodVars_none hV
  have hlen : ∀ {ts : List TypeId} {vs : List Value} {ds : List (DataW H)} {ps : List MemPlace}, DataW.TrodAll enc C.prog W 0 (fun _ => true) true ts vs ds ps → ds.length = ts.length := by
    intro ts
    induction ts with
    | nil => intro vs ds ps h; obtain ⟨_, rfl, _⟩ := trodAll_nil h; rfl
    | cons t ts ih => intro vs ds ps h; obtain ⟨v, vs', d, ds', a, b, rfl, rfl, rfl, _, h2⟩ := trodAll_cons h; simp [ih h2]
  have hds := hspec ds (by rw [hlen hA]; simp)
  refine ((h W base args ds p hval hA (by simpa using hfz)) W W (mem_allL W)).mono fun e W' ⟨v, L', h1, h2, h3, h4⟩ => ?_
  subst h3; subst h4
  exact ⟨_, h1, post_law hl hts hv hr hb (by simpa using hds) hW' (below_of_mem h2)⟩
end Go.Proofs.Ytmdiabglbmgkkaa
