/-
  A part of what the last of these texts needs; by itself it proves no statement.
-/
import Derived.Test.YtdiaogcogkapgaaGreatDoorKP4
namespace Go.Proofs.YtdiaogcogkapgaaGreatDoor
abbrev recF : List Fk := [.kk, .ww, .ww, .bb, .tt, .tt]
abbrev opF : List Fk := [.ww, .ww, .ww, .ww]
abbrev accF : List Fk := [.ww, .ww, .nn, .ww, .ww]
abbrev entryF : List Fk := [.ww, .kk, .ww, .ww, .bb, .ww, .ww, .nn, .ww, .ww]
abbrev binF : List Fk := [.ww]
abbrev chF : List Fk := [.ww, .ww]
abbrev ctF : List Fk := [.ww, .ww, .ww, .ww, .ww, .ww, .ww]
abbrev khF : List Fk := [.ww, .ww, .tt]
structure MV where
  kind : Int
  ver : Int
  rc : List Value
  time : Int
  num : Int
  ch : List Value
  bins : List (List Value)
  ct : List Value
  kh : List Value
  ents : List (List Value)
def encCmd (ch : List Value) (bins : List (List Value)) (ct : List Value) : List UInt8 := encs chF ch ++ (encl binF bins ++ encs ctF ct)
def encChunk (kh : List Value) (ents : List (List Value)) : List UInt8 := encs khF kh ++ encl entryF ents
def MV.body (m : MV) : List UInt8 :=
  if m.kind = 0 then encs recF m.rc else if m.kind = 1 then enc (zz m.time) else if m.kind = 2 then enc (zz m.num) else if m.kind = 3 then encCmd m.ch m.bins m.ct else if m.kind = 4 then encChunk m.kh m.ents else []
def MV.enc (m : MV) : List UInt8 := Go.Proofs.YtdiaogcogkapgaaGreatDoor.enc (zz m.kind) ++ (Go.Proofs.YtdiaogcogkapgaaGreatDoor.enc (zz m.ver) ++ m.body)
def i64r (x : Int) : Prop := -9223372036854775808 ≤ x ∧ x < 9223372036854775808
structure MV.Ok (m : MV) : Prop where
  kind : i64r m.kind
  ver : i64r m.ver
  rc : Oks recF m.rc
  time : i64r m.time
  num : i64r m.num
  ch : Oks chF m.ch
  bins : ∀ vs ∈ m.bins, Oks binF vs
  ct : Oks ctF m.ct
  kh : Oks khF m.kh
  ents : ∀ vs ∈ m.ents, Oks entryF vs
abbrev zI : Value := .int .i64 0
def zRec : List Value := [.int .u32 0, zI, zI, .int .u8 0, .bool false, .bool false]
def MV.none : MV := ⟨0, 0, zRec, 0, 0, [zI, zI], [], [zI, zI, zI, zI, zI, zI, zI], [zI, zI, .bool false], []⟩
theorem i64r0 : i64r 0 := ⟨by omega, by omega⟩
theorem oks_zI : Fk.ok .ww zI := ⟨0, rfl, by omega, by omega⟩
theorem oks_zRec : Oks recF zRec := ⟨⟨0, rfl, by omega, by omega⟩, oks_zI, oks_zI, ⟨0, rfl⟩, ⟨false, rfl⟩, ⟨false, rfl⟩, trivial⟩
theorem MV.none_ok : MV.none.Ok := ⟨i64r0, i64r0, oks_zRec, i64r0, i64r0, ⟨oks_zI, oks_zI, trivial⟩, (fun _ h => (by cases h)), ⟨oks_zI, oks_zI, oks_zI, oks_zI, oks_zI, oks_zI, oks_zI, trivial⟩, ⟨oks_zI, oks_zI, ⟨false, rfl⟩, trivial⟩, (fun _ h => (by cases h))⟩
def MV.bare (m : MV) : MV :=
  if m.kind = 0 then { MV.none with kind := m.kind, ver := m.ver, rc := m.rc }
  else if m.kind = 1 then { MV.none with kind := m.kind, ver := m.ver, time := m.time }
  else if m.kind = 2 then { MV.none with kind := m.kind, ver := m.ver, num := m.num }
  else if m.kind = 3 then { MV.none with kind := m.kind, ver := m.ver, ch := m.ch, bins := m.bins, ct := m.ct }
  else { MV.none with kind := m.kind, ver := m.ver, kh := m.kh, ents := m.ents }
def prCmd (l : List UInt8) (a : Nat) : PR (List Value × List (List Value) × List Value) :=
  (prs l chF a).bind fun ch a1 => (prl l 8 binF a1).bind fun bins a2 => (prs l ctF a2).bind fun ct a3 => .ok (ch, bins, ct) a3
def prChunk (l : List UInt8) (a : Nat) : PR (List Value × List (List Value)) :=
  (prs l khF a).bind fun kh a1 => (prl l 64 entryF a1).bind fun ents a2 => .ok (kh, ents) a2
def prI (l : List UInt8) (a : Nat) : PR Int := if uCode l a = 0 then .ok (whole (uVal l a)) (uNext l a) else .bad (uCode l a) a
def prBody (l : List UInt8) (k v : Int) (a : Nat) : PR MV :=
  if k = 0 then (prs l recF a).bind fun vs b => .ok { MV.none with kind := k, ver := v, rc := vs } b
  else if k = 1 then (prI l a).bind fun x b => .ok { MV.none with kind := k, ver := v, time := x } b
  else if k = 2 then (prI l a).bind fun x b => .ok { MV.none with kind := k, ver := v, num := x } b
  else if k = 3 then (prCmd l a).bind fun x b => .ok { MV.none with kind := k, ver := v, ch := x.1, bins := x.2.1, ct := x.2.2 } b
  else (prChunk l a).bind fun x b => .ok { MV.none with kind := k, ver := v, kh := x.1, ents := x.2 } b
def prMsg (l : List UInt8) (a : Nat) : PR MV :=
  (prI l a).bind fun k a1 => if 0 ≤ k ∧ k ≤ 4 then (prI l a1).bind fun v a2 => prBody l k v a2 else .bad 6 a
theorem prI_went {l : List UInt8} {a b : Nat} {x : Int} (h : prI l a = .ok x b) : Went l (i64r x) (enc (zz x)) a b := by
  unfold prI at h
  split at h
  · rename_i hc
    cases h
    obtain ⟨h1, h2, h3⟩ := u_went hc
    exact ⟨whole_rng (val_lt _), h1, h2, by rw [zz_whole, h3]⟩
  · cases h
theorem prCmd_went {l : List UInt8} {a b : Nat} {x : List Value × List (List Value) × List Value} (ha : a ≤ l.length) (h : prCmd l a = .ok x b) : Went l (Oks chF x.1 ∧ (x.2.1.length ≤ 8 ∧ ∀ vs ∈ x.2.1, Oks binF vs) ∧ Oks ctF x.2.2) (encCmd x.1 x.2.1 x.2.2) a b := by
  obtain ⟨ch, a1, h1, h⟩ := PR.bind_ok h
  obtain ⟨bins, a2, h2, h⟩ := PR.bind_ok h
  obtain ⟨ct, a3, h3, h⟩ := PR.bind_ok h
  cases h
  obtain ⟨o1, l1, m1, e1⟩ := prs_went ha h1
  obtain ⟨o2, l2, m2, e2⟩ := prl_went h2
  obtain ⟨o3, l3, m3, e3⟩ := prs_went m2 h3
  refine ⟨⟨o1, o2, o3⟩, by omega, m3, ?_⟩
  unfold encCmd
  rw [e1, e2, e3, cut_app l2 l3, cut_app l1 (by omega)]
theorem prChunk_went {l : List UInt8} {a b : Nat} {x : List Value × List (List Value)} (ha : a ≤ l.length) (h : prChunk l a = .ok x b) : Went l (Oks khF x.1 ∧ (x.2.length ≤ 64 ∧ ∀ vs ∈ x.2, Oks entryF vs)) (encChunk x.1 x.2) a b := by
  obtain ⟨kh, a1, h1, h⟩ := PR.bind_ok h
  obtain ⟨ents, a2, h2, h⟩ := PR.bind_ok h
  cases h
  obtain ⟨o1, l1, m1, e1⟩ := prs_went ha h1
  obtain ⟨o2, l2, m2, e2⟩ := prl_went h2
  refine ⟨⟨o1, o2⟩, by omega, m2, ?_⟩
  unfold encChunk
  rw [e1, e2, cut_app l1 l2]
structure MV.Lim (m : MV) : Prop where
  ok : m.Ok
  k0 : 0 ≤ m.kind
  k4 : m.kind ≤ 4
  nb : m.bins.length ≤ 8
  ne : m.ents.length ≤ 64
  bare : m.bare = m
theorem prBody_went {l : List UInt8} {a b : Nat} {k v : Int} {m : MV} (ha : a ≤ l.length) (hk : i64r k) (hv : i64r v) (h0 : 0 ≤ k ∧ k ≤ 4) (h : prBody l k v a = .ok m b) : Went l (m.Lim ∧ m.kind = k ∧ m.ver = v) m.body a b := by
  have N := MV.none_ok
  unfold prBody at h
  split at h
  · rename_i e
    obtain ⟨x, a', h1, h2⟩ := PR.bind_ok h
    cases h2
    obtain ⟨o1, l1, l2, e1⟩ := prs_went ha h1
    refine ⟨⟨⟨⟨hk, hv, o1, N.time, N.num, N.ch, N.bins, N.ct, N.kh, N.ents⟩, h0.1, h0.2, by simp [MV.none], by simp [MV.none], ?_⟩, rfl, rfl⟩, l1, l2, ?_⟩
    · unfold MV.bare; rw [if_pos e]
    · unfold MV.body; rw [if_pos e]; exact e1
  · rename_i n0
    split at h
    · rename_i e
      obtain ⟨x, a', h1, h2⟩ := PR.bind_ok h
      cases h2
      obtain ⟨o1, l1, l2, e1⟩ := prI_went h1
      refine ⟨⟨⟨⟨hk, hv, N.rc, o1, N.num, N.ch, N.bins, N.ct, N.kh, N.ents⟩, h0.1, h0.2, by simp [MV.none], by simp [MV.none], ?_⟩, rfl, rfl⟩, l1, l2, ?_⟩
      · unfold MV.bare; rw [if_neg n0, if_pos e]
      · unfold MV.body; rw [if_neg n0, if_pos e]; exact e1
    · rename_i n1
      split at h
      · rename_i e
        obtain ⟨x, a', h1, h2⟩ := PR.bind_ok h
        cases h2
        obtain ⟨o1, l1, l2, e1⟩ := prI_went h1
        refine ⟨⟨⟨⟨hk, hv, N.rc, N.time, o1, N.ch, N.bins, N.ct, N.kh, N.ents⟩, h0.1, h0.2, by simp [MV.none], by simp [MV.none], ?_⟩, rfl, rfl⟩, l1, l2, ?_⟩
        · unfold MV.bare; rw [if_neg n0, if_neg n1, if_pos e]
        · unfold MV.body; rw [if_neg n0, if_neg n1, if_pos e]; exact e1
      · rename_i n2
        split at h
        · rename_i e
          obtain ⟨x, a', h1, h2⟩ := PR.bind_ok h
          cases h2
          obtain ⟨⟨o1, o2, o3⟩, l1, l2, e1⟩ := prCmd_went ha h1
          refine ⟨⟨⟨⟨hk, hv, N.rc, N.time, N.num, o1, o2.2, o3, N.kh, N.ents⟩, h0.1, h0.2, o2.1, by simp [MV.none], ?_⟩, rfl, rfl⟩, l1, l2, ?_⟩
          · unfold MV.bare; rw [if_neg n0, if_neg n1, if_neg n2, if_pos e]
          · unfold MV.body; rw [if_neg n0, if_neg n1, if_neg n2, if_pos e]; exact e1
        · rename_i n3
          obtain ⟨x, a', h1, h2⟩ := PR.bind_ok h
          cases h2
          obtain ⟨⟨o1, o2⟩, l1, l2, e1⟩ := prChunk_went ha h1
          refine ⟨⟨⟨⟨hk, hv, N.rc, N.time, N.num, N.ch, N.bins, N.ct, o1, o2.2⟩, h0.1, h0.2, by simp [MV.none], o2.1, ?_⟩, rfl, rfl⟩, l1, l2, ?_⟩
          · unfold MV.bare; rw [if_neg n0, if_neg n1, if_neg n2, if_neg n3]
          · have e4 : k = 4 := by omega
            unfold MV.body; rw [if_neg n0, if_neg n1, if_neg n2, if_neg n3, if_pos e4]; exact e1
theorem prMsg_went {l : List UInt8} {a b : Nat} {m : MV} (h : prMsg l a = .ok m b) : Went l m.Lim m.enc a b := by
  obtain ⟨k, a1, h1, h⟩ := PR.bind_ok h
  obtain ⟨ok, l1, m1, e1⟩ := prI_went h1
  split at h
  · rename_i hk
    obtain ⟨v, a2, h2, h⟩ := PR.bind_ok h
    obtain ⟨ov, l2, m2, e2⟩ := prI_went h2
    obtain ⟨⟨o3, ek, ev⟩, l3, m3, e3⟩ := prBody_went m2 ok ov hk h
    refine ⟨o3, by omega, m3, ?_⟩
    unfold MV.enc
    rw [ek, ev, e1, e2, e3, cut_app l2 l3, cut_app l1 (by omega)]
  · cases h
theorem enc_prI {x : Int} (h : i64r x) (pre post : List UInt8) : prI (pre ++ (enc (zz x) ++ post)) pre.length = .ok x (pre ++ enc (zz x)).length := by
  obtain ⟨e1, e2, e3⟩ := read_enc (pre := pre) (post := post) (zz_lt h.1 h.2)
  unfold prI
  rw [if_pos e1, e2, e3, whole_zz h.1 h.2]
theorem enc_prCmd {ch ct : List Value} {bins : List (List Value)} (h1 : Oks chF ch) (h2 : ∀ vs ∈ bins, Oks binF vs) (hn : bins.length ≤ 8) (h3 : Oks ctF ct) (pre post : List UInt8) : prCmd (pre ++ (encCmd ch bins ct ++ post)) pre.length = .ok (ch, bins, ct) (pre ++ encCmd ch bins ct).length := by
  have e1 := encs_prs h1 pre (encl binF bins ++ (encs ctF ct ++ post))
  have e2 := encl_prl (es := binF) (most := 8) hn (by omega) h2 (pre ++ encs chF ch) (encs ctF ct ++ post)
  have e3 := encs_prs h3 (pre ++ encs chF ch ++ encl binF bins) post
  simp only [List.append_assoc] at e1 e2 e3
  unfold prCmd encCmd
  simp only [List.append_assoc]
  rw [e1]
  simp only [PR.bind]
  rw [e2]
  simp only
  rw [e3]
theorem enc_prChunk {kh : List Value} {ents : List (List Value)} (h1 : Oks khF kh) (h2 : ∀ vs ∈ ents, Oks entryF vs) (hn : ents.length ≤ 64) (pre post : List UInt8) : prChunk (pre ++ (encChunk kh ents ++ post)) pre.length = .ok (kh, ents) (pre ++ encChunk kh ents).length := by
  have e1 := encs_prs h1 pre (encl entryF ents ++ post)
  have e2 := encl_prl (es := entryF) (most := 64) hn (by omega) h2 (pre ++ encs khF kh) post
  simp only [List.append_assoc] at e1 e2
  unfold prChunk encChunk
  simp only [List.append_assoc]
  rw [e1]
  simp only [PR.bind]
  rw [e2]
theorem enc_prBody {m : MV} (h : m.Lim) (pre post : List UInt8) : prBody (pre ++ (m.body ++ post)) m.kind m.ver pre.length = .ok m (pre ++ m.body).length := by
  have hb := h.bare
  unfold prBody
  split
  · rename_i e
    have : m.body = encs recF m.rc := by unfold MV.body; rw [if_pos e]
    rw [this, encs_prs h.ok.rc]
    simp only [PR.bind]
    congr 1
    unfold MV.bare at hb; rw [if_pos e] at hb; exact hb
  · rename_i n0
    split
    · rename_i e
      have : m.body = enc (zz m.time) := by unfold MV.body; rw [if_neg n0, if_pos e]
      rw [this, enc_prI h.ok.time]
      simp only [PR.bind]
      congr 1
      unfold MV.bare at hb; rw [if_neg n0, if_pos e] at hb; exact hb
    · rename_i n1
      split
      · rename_i e
        have : m.body = enc (zz m.num) := by unfold MV.body; rw [if_neg n0, if_neg n1, if_pos e]
        rw [this, enc_prI h.ok.num]
        simp only [PR.bind]
        congr 1
        unfold MV.bare at hb; rw [if_neg n0, if_neg n1, if_pos e] at hb; exact hb
      · rename_i n2
        split
        · rename_i e
          have : m.body = encCmd m.ch m.bins m.ct := by unfold MV.body; rw [if_neg n0, if_neg n1, if_neg n2, if_pos e]
          rw [this, enc_prCmd h.ok.ch h.ok.bins h.nb h.ok.ct]
          simp only [PR.bind]
          congr 1
          unfold MV.bare at hb; rw [if_neg n0, if_neg n1, if_neg n2, if_pos e] at hb; exact hb
        · rename_i n3
          have e4 : m.kind = 4 := by have := h.k0; have := h.k4; omega
          have : m.body = encChunk m.kh m.ents := by unfold MV.body; rw [if_neg n0, if_neg n1, if_neg n2, if_neg n3, if_pos e4]
          rw [this, enc_prChunk h.ok.kh h.ok.ents h.ne]
          simp only [PR.bind]
          congr 1
          unfold MV.bare at hb; rw [if_neg n0, if_neg n1, if_neg n2, if_neg n3] at hb; exact hb
theorem enc_prMsg {m : MV} (h : m.Lim) (pre post : List UInt8) : prMsg (pre ++ (m.enc ++ post)) pre.length = .ok m (pre ++ m.enc).length := by
  have e1 := enc_prI h.ok.kind pre (enc (zz m.ver) ++ (m.body ++ post))
  have e2 := enc_prI h.ok.ver (pre ++ enc (zz m.kind)) (m.body ++ post)
  have e3 := enc_prBody h (pre ++ enc (zz m.kind) ++ enc (zz m.ver)) post
  simp only [List.append_assoc] at e1 e2 e3
  unfold prMsg MV.enc
  simp only [List.append_assoc]
  rw [e1]
  simp only [PR.bind]
  rw [if_pos ⟨h.k0, h.k4⟩, e2]
  simp only
  rw [e3]
end Go.Proofs.YtdiaogcogkapgaaGreatDoor
namespace Go.Proofs.YtdiaogcogkapgaaGreatDoor
open Go.RowKit
attribute [local irreducible] Fn WC WL WR OW Qt YieldFn QW FnP FnD FnE
section
variable {W : Wy Tryz.prog} (M : Meth W)
include M
theorem small_flat : Flat W 94 W.recv [.ww] := by
  intro s Lp R i b cs E fr off vs hM hT hr hR hv hl hfr
  obtain ⟨x0, vs, rfl, hx, hv⟩ := hv.split
  obtain rfl := hv.nil
  have hc := hl.cons.1
  have hX := get_app (A := Lp) hR
  have iw := M.iw
  have m1 := M.mw
  have hz : off < cs.size := (Array.getElem?_eq_some_iff.1 hc).1
  have hx2 := hx
  obtain ⟨q, rfl, q0, q1⟩ := hx2
  refine FnE_enter Tryz.func94 rfl Tryz.ntmps94 rfl fun g => ?_
  unfold Wy.recv
  repeat (first | refine RQ ?_ | (refine WL_Q ?_; (first | refine QW_of (Qt_nilCheck_m rfl) ?_)) | (refine RE ?_; try intro _) | refine RC ?_ | refine WC_region ?_)
  rename_i mb
  refine WL_op rfl (OW_locI M.mw M.cw hM hT (W.room_le hr (Nat.le_refl _)) hx rfl ?_ ?_)
  · intro s' x' Lp' hs hM'
    obtain ⟨y, rfl, _⟩ := W.stp_ok hs hx
    have hX' : ((mb, Obj.cells #[Value.int .i64 y] 2 (0, 0)) :: (Lp' ++ R))[(Lp'.length + i) + 1]? = some _ := get_app (A := Lp') hR
    repeat (first | refine RQ ?_ | (refine WL_Q ?_; (first | refine QW_of (Qt_nilCheck_m rfl) ?_)) | (refine RE ?_; try intro _) | refine RC ?_ | refine WC_region ?_)
    refine WL_op rfl (OW_store1F (v := .int .i64 y) rfl _ hX' hz (hfr.sub 0 1 (Nat.le_refl _)) (WL_nil ?_))
    refine ⟨.tuple #[], _, Res0 rfl, .cons _ (.refl _), rfl, s', [.int .i64 y], Lp', cs.setIfInBounds off (.int .i64 y), W.stps1_ok hs, ?_, hM', Upd.one _ hz, W.keepT hT hR hc hs⟩
    exact set_app
  · intro c a p s' Lp' hs hM'
    exact ⟨_, rfl, c, a, p, s', Lp', cs, W.stps1_bad hs, rfl, by rw [set_same hR], hM', rfl⟩
theorem key_flat : Flat W 119 W.recv [.kk] := by
  intro s Lp R i b cs E fr off vs hM hT hr hR hv hl hfr
  obtain ⟨x0, vs, rfl, hx, hv⟩ := hv.split
  obtain rfl := hv.nil
  have hc := hl.cons.1
  have hz : off < cs.size := (Array.getElem?_eq_some_iff.1 hc).1
  obtain ⟨q, rfl, q0, q1⟩ := hx
  have hw : IntKind.u64.wrap q = q := wU64 q0 (by omega)
  refine FnE_enter Tryz.func119 rfl Tryz.ntmps119 rfl fun g => ?_
  unfold Wy.recv
  repeat (first | refine RQ ?_ | (refine WL_Q ?_; (first | refine QW_of (Qt_nilCheck_m rfl) ?_)) | (refine RE ?_; try intro _) | refine RC ?_ | refine WC_region ?_)
  have ih := M.ih
  refine WL_op rfl (OW_invE M.mh rfl (M.ch s Lp R hM) ?_ (fun _ _ h => h.elim))
  rintro _ _ ⟨rfl, Lp1, rfl, hM1⟩
  have hX := get_app (A := Lp1) hR
  repeat (first | refine RQ ?_ | (refine WL_Q ?_; (first | refine QW_of (Qt_nilCheck_m rfl) ?_)) | (refine RE ?_; try intro _) | refine RC ?_ | refine WG 0 ?_ | refine WG 1 ?_ | refine WG 3 ?_ | refine WG 4 ?_)
  rw [hw]
  repeat (first | refine RQ ?_ | (refine WL_Q ?_; (first | refine QW_of (Qt_nilCheck_m rfl) ?_)) | (refine RE ?_; try intro _) | refine RC ?_ | refine WC_region ?_)
  rename_i mb
  have jn := M.jn
  refine WL_op rfl (OW_locI M.mn M.cn hM1 hT (W.hr_room hr) ⟨q, rfl, q0, by omega⟩ rfl ?_ ?_)
  · intro s' x' Lp' hs hM'
    obtain ⟨y, rfl, y0, y1⟩ := W.stp_ok hs ⟨q, rfl, q0, by omega⟩
    repeat (first | refine RQ ?_ | (refine WL_Q ?_; (first | refine QW_of (Qt_nilCheck_m rfl) ?_)) | (refine RE ?_; try intro _) | refine RC ?_ | refine WC_region ?_)
    have im := M.im
    have hF := (M.cm s' Lp' ((mb, Obj.cells #[Value.int .u64 y] 91 (0, 0)) :: R) (decide (y ≤ 4294967295)) 4 hM')
    refine WL_op rfl (OW_invE M.mm rfl ((hF.dropP (Rp' := fun u L' => ∃ c a p, W.mst (decide (y ≤ 4294967295)) 4 s' = some (c, a) ∧ u = flt p ∧ L' = (p, fltO c a) :: (Lp' ++ R)) (fun u L' ⟨c, a, p, h1, h2, h3⟩ => ⟨(p, fltO c a) :: (Lp' ++ R), by rw [h3]; exact .cons_cons _ (.append (.refl _) (.cons _ (.refl _))), c, a, p, h1, h2, rfl⟩)).perm List.perm_middle (fun v L' h => ⟨_, .refl _, h⟩) (fun v L' h => ⟨_, .refl _, h⟩)) ?_ ?_)
    · rintro _ _ ⟨rfl, rfl, hm⟩
      obtain ⟨hk, y2⟩ := W.key_ok q0 q1 hs hm
      have hX0 : (Lp' ++ ((mb, Obj.cells #[Value.int .u64 y] 91 (0, 0)) :: R))[Lp'.length]? = some _ := get_app (A := Lp') (i := 0) rfl
      have hX' := get_app (A := Lp') (R := (mb, Obj.cells #[Value.int .u64 y] 91 (0, 0)) :: R) (i := i + 1) hR
      have hw2 : IntKind.u32.wrap y = y := by
        simp only [IntKind.wrap, IntKind.bits, IntKind.signed]
        simp; omega
      repeat (first | refine RQ ?_ | (refine WL_Q ?_; (first | refine QW_of (Qt_nilCheck_m rfl) ?_)) | (refine RE ?_; try intro _) | refine RC ?_ | refine WC_region ?_)
      rw [hw2]
      refine WL_op rfl (OW_store1F (v := .int .u32 y) rfl _ hX' hz (hfr.sub 0 1 (Nat.le_refl _)) (WL_nil ?_))
      refine ⟨.tuple #[], Lp' ++ R.set i (b, .cells (cs.setIfInBounds off (.int .u32 y)) E fr), Res0 rfl, ?_, rfl, s', [.int .u32 y], Lp', cs.setIfInBounds off (.int .u32 y), W.stps1_ok hk, rfl, hM', Upd.one _ hz, W.keepT hT hR hc hk⟩
      rw [set_app]
      exact .append (.refl _) (.cons _ (.refl _))
    · rintro _ _ ⟨c, a, p, hm, rfl, rfl⟩
      exact ⟨_, rfl, c, a, p, s', Lp', cs, W.stps1_bad (W.key_must hs hm), rfl, by rw [set_same hR], hM', rfl⟩
  · intro c a p s' Lp' hs hM'
    exact ⟨_, rfl, c, a, p, s', Lp', cs, W.stps1_bad (W.key_bad hs), rfl, by rw [set_same hR], hM', rfl⟩
set_option maxHeartbeats 4000000 in
theorem rec_flat : Flat W 95 W.recv recF := by
  intro s Lp R i b cs E fr off vs hM0 hT0 hr0 hR hv hl hfr
  obtain ⟨x0, vs, rfl, hx0, hv⟩ := hv.split
  obtain ⟨x1, vs, rfl, hx1, hv⟩ := hv.split
  obtain ⟨x2, vs, rfl, hx2, hv⟩ := hv.split
  obtain ⟨x3, vs, rfl, hx3, hv⟩ := hv.split
  obtain ⟨x4, vs, rfl, hx4, hv⟩ := hv.split
  obtain ⟨x5, vs, rfl, hx5, hv⟩ := hv.split
  obtain rfl := hv.nil
  have ho0 : Oks [.kk] [x0] := ⟨hx0, trivial⟩
  have g0 : Lies cs (off + 0) [x0] := hl.cut 0 1
  have ho1 : Oks [.ww] [x1] := ⟨hx1, trivial⟩
  have g1 : Lies cs (off + 1) [x1] := hl.cut 1 1
  have ho2 : Oks [.ww] [x2] := ⟨hx2, trivial⟩
  have g2 : Lies cs (off + 2) [x2] := hl.cut 2 1
  have ho3 : Oks [.bb] [x3] := ⟨hx3, trivial⟩
  have g3 : Lies cs (off + 3) [x3] := hl.cut 3 1
  have ho4 : Oks [.tt] [x4] := ⟨hx4, trivial⟩
  have g4 : Lies cs (off + 4) [x4] := hl.cut 4 1
  have ho5 : Oks [.tt] [x5] := ⟨hx5, trivial⟩
  have g5 : Lies cs (off + 5) [x5] := hl.cut 5 1
  have qw := M.mw
  have pw := M.iw
  have qt := M.mt
  have pt := M.it
  have qb := M.mo
  have pb := M.io
  refine FnE_enter Tryz.func95 rfl Tryz.ntmps95 rfl fun g => ?_
  unfold Wy.recv
  have U0 : Upd cs cs off [] := Upd.refl_of (fun j v h => by simp at h)
  have A0 : W.stps [] s [] = .ok s [] := rfl
  have O0 : Oks [] [] := trivial
  have L0 : ([] : List Value).length = 0 := rfl
  repeat (first | refine RQ ?_ | (refine WL_Q ?_; (first | refine QW_of (Qt_nilCheck_m rfl) ?_)) | refine RC ?_ | refine WG 0 ?_)
  have l0 : Lies cs (off + 0) [x0] := fun q v h => by
    rw [U0.rest _ (.inr (by rw [L0]; omega))]
    exact g0 q v h
  refine WL_op rfl ?_
  refine (OW_flatF (key_flat M) hM0 hT0 (W.room_le hr0 (by decide)) hR ho0 l0 (hfr.sub 0 1 (by decide)) rfl ⟨?_, ?_⟩)
  rotate_left
  · intro c a p s' Lp' cs' hs hM' hz
    exact ⟨_, rfl, c, a, p, s', Lp', cs', W.bad_cat [.ww, .ww, .bb, .tt, .tt] [x1, x2, x3, x4, x5] (W.cat_bad A0 O0 hs) (Oks.app O0 ho0), rfl, rfl, hM', hz.trans U0.size⟩
  intro s1 us0 Lp1 cs1 hs0 hM1 hu0 hT1
  have n0 : us0.length = 1 := W.stps_len hs0 ho0
  have U1 := U0.app hu0 (by rw [L0])
  have L1 := (show ([] ++ us0).length = 1 by rw [List.length_append, L0, n0])
  have A1 := W.cat_ok A0 O0 hs0
  have O1 := Oks.app O0 ho0
  have hr1 := W.stps_room (n := 5) hs0 ho0 (W.room_le hr0 (by decide))
  have R1 := get_set_self hR (b, Obj.cells cs1 E fr)
  repeat (first | refine RQ ?_ | (refine WL_Q ?_; (first | refine QW_of (Qt_nilCheck_m rfl) ?_)) | refine RC ?_ | refine WG 0 ?_)
  refine WC_draw_sub (id := 1) 8 (Cs [0,1,2,3,4,5,6] <| .must 7 <| .done) mixed (by kernel_rfl) (List.nil_sublist _) ?_
  repeat (first | refine RQr ?_ | (refine RX ?_; (first | refine QW_of (Qt_nilCheck_m rfl) ?_)) | refine RC ?_ | refine RU ?_ | refine WC_draw_all (id := 1) 8 (Cs [0,1,2,3,4,5,6] <| .must 7 <| .done) mixed (by kernel_rfl) ?_)
  have l1 : Lies cs1 (off + 1) [x1] := fun q v h => by
    rw [U1.rest _ (.inr (by rw [L1]; omega))]
    exact g1 q v h
  refine WR_op rfl rfl ?_
  refine (OW_flatI M.mw M.cw hM1 hT1 (W.room_le hr1 (by decide)) R1 hx1 (l1 0 _ rfl) (hfr.sub 1 1 (by decide)) rfl ⟨?_, ?_⟩)
  rotate_left
  · intro c a p s' Lp' cs' hs hM' hz
    exact ⟨_, rfl, c, a, p, s', Lp', cs', W.bad_cat [.ww, .bb, .tt, .tt] [x2, x3, x4, x5] (W.cat_bad A1 O1 hs) (Oks.app O1 ho1), rfl, by rw [List.set_set], hM', hz.trans U1.size⟩
  intro s2 us1 Lp2 cs2 hs1 hM2 hu1 hT2
  have n1 : us1.length = 1 := W.stps_len hs1 ho1
  have U2 := U1.app hu1 (by rw [L1])
  have L2 := (show (([] ++ us0) ++ us1).length = 2 by rw [List.length_append, L1, n1])
  have A2 := W.cat_ok A1 O1 hs1
  have O2 := Oks.app O1 ho1
  have hr2 := W.stps_room (n := 4) hs1 ho1 (W.room_le hr1 (by decide))
  rw [List.set_set] at hT2
  rw [List.set_set]
  have R2 := get_set_self hR (b, Obj.cells cs2 E fr)
  refine ⟨(fun q hq => (by cases hq)), ?_⟩
  repeat (first | refine RQr ?_ | (refine RX ?_; (first | refine QW_of (Qt_nilCheck_m rfl) ?_)) | refine RC ?_ | refine RU ?_ | refine WC_draw_all (id := 1) 8 (Cs [0,1,2,3,4,5,6] <| .must 7 <| .done) mixed (by kernel_rfl) ?_)
  refine WC_draw_sub (id := 2) 8 (Cs [0,1,2,3,4,5,6] <| .must 7 <| .done) mixed (by kernel_rfl) (List.nil_sublist _) ?_
  repeat (first | refine RQr ?_ | (refine RX ?_; (first | refine QW_of (Qt_nilCheck_m rfl) ?_)) | refine RC ?_ | refine RU ?_ | refine WC_draw_all (id := 2) 8 (Cs [0,1,2,3,4,5,6] <| .must 7 <| .done) mixed (by kernel_rfl) ?_)
  have l2 : Lies cs2 (off + 2) [x2] := fun q v h => by
    rw [U2.rest _ (.inr (by rw [L2]; omega))]
    exact g2 q v h
  refine WR_op rfl rfl ?_
  refine (OW_flatI M.mw M.cw hM2 hT2 (W.room_le hr2 (by decide)) R2 hx2 (l2 0 _ rfl) (hfr.sub 2 1 (by decide)) rfl ⟨?_, ?_⟩)
  rotate_left
  · intro c a p s' Lp' cs' hs hM' hz
    exact ⟨_, rfl, c, a, p, s', Lp', cs', W.bad_cat [.bb, .tt, .tt] [x3, x4, x5] (W.cat_bad A2 O2 hs) (Oks.app O2 ho2), rfl, by rw [List.set_set], hM', hz.trans U2.size⟩
  intro s3 us2 Lp3 cs3 hs2 hM3 hu2 hT3
  have n2 : us2.length = 1 := W.stps_len hs2 ho2
  have U3 := U2.app hu2 (by rw [L2])
  have L3 := (show ((([] ++ us0) ++ us1) ++ us2).length = 3 by rw [List.length_append, L2, n2])
  have A3 := W.cat_ok A2 O2 hs2
  have O3 := Oks.app O2 ho2
  have hr3 := W.stps_room (n := 3) hs2 ho2 (W.room_le hr2 (by decide))
  rw [List.set_set] at hT3
  rw [List.set_set]
  have R3 := get_set_self hR (b, Obj.cells cs3 E fr)
  refine ⟨(fun q hq => (by cases hq)), ?_⟩
  repeat (first | refine RQr ?_ | (refine RX ?_; (first | refine QW_of (Qt_nilCheck_m rfl) ?_)) | refine RC ?_ | refine RU ?_ | refine WC_draw_all (id := 2) 8 (Cs [0,1,2,3,4,5,6] <| .must 7 <| .done) mixed (by kernel_rfl) ?_)
  refine WC_draw_sub (id := 3) 8 (Cs [0,1,2,3,4,5,6] <| .must 7 <| .done) mixed (by kernel_rfl) (List.nil_sublist _) ?_
  repeat (first | refine RQr ?_ | (refine RX ?_; (first | refine QW_of (Qt_nilCheck_m rfl) ?_)) | refine RC ?_ | refine RU ?_ | refine WC_draw_all (id := 3) 8 (Cs [0,1,2,3,4,5,6] <| .must 7 <| .done) mixed (by kernel_rfl) ?_)
  have l3 : Lies cs3 (off + 3) [x3] := fun q v h => by
    rw [U3.rest _ (.inr (by rw [L3]; omega))]
    exact g3 q v h
  refine WR_op rfl rfl ?_
  refine (OW_flatI M.mo M.co hM3 hT3 (W.room_le hr3 (by decide)) R3 hx3 (l3 0 _ rfl) (hfr.sub 3 1 (by decide)) rfl ⟨?_, ?_⟩)
  rotate_left
  · intro c a p s' Lp' cs' hs hM' hz
    exact ⟨_, rfl, c, a, p, s', Lp', cs', W.bad_cat [.tt, .tt] [x4, x5] (W.cat_bad A3 O3 hs) (Oks.app O3 ho3), rfl, by rw [List.set_set], hM', hz.trans U3.size⟩
  intro s4 us3 Lp4 cs4 hs3 hM4 hu3 hT4
  have n3 : us3.length = 1 := W.stps_len hs3 ho3
  have U4 := U3.app hu3 (by rw [L3])
  have L4 := (show (((([] ++ us0) ++ us1) ++ us2) ++ us3).length = 4 by rw [List.length_append, L3, n3])
  have A4 := W.cat_ok A3 O3 hs3
  have O4 := Oks.app O3 ho3
  have hr4 := W.stps_room (n := 2) hs3 ho3 (W.room_le hr3 (by decide))
  rw [List.set_set] at hT4
  rw [List.set_set]
  have R4 := get_set_self hR (b, Obj.cells cs4 E fr)
  refine ⟨(fun q hq => (by cases hq)), ?_⟩
  repeat (first | refine RQr ?_ | (refine RX ?_; (first | refine QW_of (Qt_nilCheck_m rfl) ?_)) | refine RC ?_ | refine RU ?_ | refine WC_draw_all (id := 3) 8 (Cs [0,1,2,3,4,5,6] <| .must 7 <| .done) mixed (by kernel_rfl) ?_)
  refine WC_draw_sub (id := 4) 8 (Cs [0,1,2,3,4,5,6] <| .must 7 <| .done) mixed (by kernel_rfl) (List.nil_sublist _) ?_
  repeat (first | refine RQr ?_ | (refine RX ?_; (first | refine QW_of (Qt_nilCheck_m rfl) ?_)) | refine RC ?_ | refine RU ?_ | refine WC_draw_all (id := 4) 8 (Cs [0,1,2,3,4,5,6] <| .must 7 <| .done) mixed (by kernel_rfl) ?_)
  have l4 : Lies cs4 (off + 4) [x4] := fun q v h => by
    rw [U4.rest _ (.inr (by rw [L4]; omega))]
    exact g4 q v h
  refine WR_op rfl rfl ?_
  refine (OW_flatI M.mt M.ct hM4 hT4 (W.room_le hr4 (by decide)) R4 hx4 (l4 0 _ rfl) (hfr.sub 4 1 (by decide)) rfl ⟨?_, ?_⟩)
  rotate_left
  · intro c a p s' Lp' cs' hs hM' hz
    exact ⟨_, rfl, c, a, p, s', Lp', cs', W.bad_cat [.tt] [x5] (W.cat_bad A4 O4 hs) (Oks.app O4 ho4), rfl, by rw [List.set_set], hM', hz.trans U4.size⟩
  intro s5 us4 Lp5 cs5 hs4 hM5 hu4 hT5
  have n4 : us4.length = 1 := W.stps_len hs4 ho4
  have U5 := U4.app hu4 (by rw [L4])
  have L5 := (show ((((([] ++ us0) ++ us1) ++ us2) ++ us3) ++ us4).length = 5 by rw [List.length_append, L4, n4])
  have A5 := W.cat_ok A4 O4 hs4
  have O5 := Oks.app O4 ho4
  have hr5 := W.stps_room (n := 1) hs4 ho4 (W.room_le hr4 (by decide))
  rw [List.set_set] at hT5
  rw [List.set_set]
  have R5 := get_set_self hR (b, Obj.cells cs5 E fr)
  refine ⟨(fun q hq => (by cases hq)), ?_⟩
  repeat (first | refine RQr ?_ | (refine RX ?_; (first | refine QW_of (Qt_nilCheck_m rfl) ?_)) | refine RC ?_ | refine RU ?_ | refine WC_draw_all (id := 4) 8 (Cs [0,1,2,3,4,5,6] <| .must 7 <| .done) mixed (by kernel_rfl) ?_)
  refine WC_draw_sub (id := 5) 8 (Cs [0,1,2,3,4,5,6] <| .must 7 <| .done) mixed (by kernel_rfl) (List.nil_sublist _) ?_
  repeat (first | refine RQr ?_ | (refine RX ?_; (first | refine QW_of (Qt_nilCheck_m rfl) ?_)) | refine RC ?_ | refine RU ?_ | refine WC_draw_all (id := 5) 8 (Cs [0,1,2,3,4,5,6] <| .must 7 <| .done) mixed (by kernel_rfl) ?_)
  have l5 : Lies cs5 (off + 5) [x5] := fun q v h => by
    rw [U5.rest _ (.inr (by rw [L5]; omega))]
    exact g5 q v h
  refine WR_op rfl rfl ?_
  refine (OW_flatI M.mt M.ct hM5 hT5 (W.room_le hr5 (by decide)) R5 hx5 (l5 0 _ rfl) (hfr.sub 5 1 (by decide)) rfl ⟨?_, ?_⟩)
  rotate_left
  · intro c a p s' Lp' cs' hs hM' hz
    exact ⟨_, rfl, c, a, p, s', Lp', cs', W.bad_cat [] [] (W.cat_bad A5 O5 hs) (Oks.app O5 ho5), rfl, by rw [List.set_set], hM', hz.trans U5.size⟩
  intro s6 us5 Lp6 cs6 hs5 hM6 hu5 hT6
  have n5 : us5.length = 1 := W.stps_len hs5 ho5
  have U6 := U5.app hu5 (by rw [L5])
  have L6 := (show (((((([] ++ us0) ++ us1) ++ us2) ++ us3) ++ us4) ++ us5).length = 6 by rw [List.length_append, L5, n5])
  have A6 := W.cat_ok A5 O5 hs5
  have O6 := Oks.app O5 ho5
  have hr6 := W.stps_room (n := 0) hs5 ho5 (W.room_le hr5 (by decide))
  rw [List.set_set] at hT6
  rw [List.set_set]
  have R6 := get_set_self hR (b, Obj.cells cs6 E fr)
  refine ⟨(fun q hq => (by cases hq)), ?_⟩
  repeat (first | refine RQr ?_ | (refine RX ?_; (first | refine QW_of (Qt_nilCheck_m rfl) ?_)) | refine RC ?_ | refine RU ?_ | refine WC_draw_all (id := 5) 8 (Cs [0,1,2,3,4,5,6] <| .must 7 <| .done) mixed (by kernel_rfl) ?_)
  exact ⟨.tuple #[], _, Res0 rfl, .refl _, rfl, s6, _, Lp6, cs6, A6, rfl, hM6, U6, hT6⟩
set_option maxHeartbeats 4000000 in
theorem op_flat : Flat W 121 W.recv opF := by
  intro s Lp R i b cs E fr off vs hM0 hT0 hr0 hR hv hl hfr
  obtain ⟨x0, vs, rfl, hx0, hv⟩ := hv.split
  obtain ⟨x1, vs, rfl, hx1, hv⟩ := hv.split
  obtain ⟨x2, vs, rfl, hx2, hv⟩ := hv.split
  obtain ⟨x3, vs, rfl, hx3, hv⟩ := hv.split
  obtain rfl := hv.nil
  have ho0 : Oks [.ww] [x0] := ⟨hx0, trivial⟩
  have g0 : Lies cs (off + 0) [x0] := hl.cut 0 1
  have ho1 : Oks [.ww] [x1] := ⟨hx1, trivial⟩
  have g1 : Lies cs (off + 1) [x1] := hl.cut 1 1
  have ho2 : Oks [.ww] [x2] := ⟨hx2, trivial⟩
  have g2 : Lies cs (off + 2) [x2] := hl.cut 2 1
  have ho3 : Oks [.ww] [x3] := ⟨hx3, trivial⟩
  have g3 : Lies cs (off + 3) [x3] := hl.cut 3 1
  have qw := M.mw
  have pw := M.iw
  refine FnE_enter Tryz.func121 rfl Tryz.ntmps121 rfl fun g => ?_
  unfold Wy.recv
  have U0 : Upd cs cs off [] := Upd.refl_of (fun j v h => by simp at h)
  have A0 : W.stps [] s [] = .ok s [] := rfl
  have O0 : Oks [] [] := trivial
  have L0 : ([] : List Value).length = 0 := rfl
  repeat (first | refine RQ ?_ | (refine WL_Q ?_; (first | refine QW_of (Qt_nilCheck_m rfl) ?_)) | refine RC ?_ | refine WG 0 ?_)
  have l0 : Lies cs (off + 0) [x0] := fun q v h => by
    rw [U0.rest _ (.inr (by rw [L0]; omega))]
    exact g0 q v h
  refine WL_op rfl ?_
  refine (OW_flatF (small_flat M) hM0 hT0 (W.room_le hr0 (by decide)) hR ho0 l0 (hfr.sub 0 1 (by decide)) rfl ⟨?_, ?_⟩)
  rotate_left
  · intro c a p s' Lp' cs' hs hM' hz
    exact ⟨_, rfl, c, a, p, s', Lp', cs', W.bad_cat [.ww, .ww, .ww] [x1, x2, x3] (W.cat_bad A0 O0 hs) (Oks.app O0 ho0), rfl, rfl, hM', hz.trans U0.size⟩
  intro s1 us0 Lp1 cs1 hs0 hM1 hu0 hT1
  have n0 : us0.length = 1 := W.stps_len hs0 ho0
  have U1 := U0.app hu0 (by rw [L0])
  have L1 := (show ([] ++ us0).length = 1 by rw [List.length_append, L0, n0])
  have A1 := W.cat_ok A0 O0 hs0
  have O1 := Oks.app O0 ho0
  have hr1 := W.stps_room (n := 3) hs0 ho0 (W.room_le hr0 (by decide))
  have R1 := get_set_self hR (b, Obj.cells cs1 E fr)
  repeat (first | refine RQ ?_ | (refine WL_Q ?_; (first | refine QW_of (Qt_nilCheck_m rfl) ?_)) | refine RC ?_ | refine WG 0 ?_)
  refine WC_draw_sub (id := 1) 8 (Cs [0,1,2,3,4,5,6] <| .must 7 <| .done) mixed (by kernel_rfl) (List.nil_sublist _) ?_
  repeat (first | refine RQr ?_ | (refine RX ?_; (first | refine QW_of (Qt_nilCheck_m rfl) ?_)) | refine RC ?_ | refine RU ?_ | refine WC_draw_all (id := 1) 8 (Cs [0,1,2,3,4,5,6] <| .must 7 <| .done) mixed (by kernel_rfl) ?_)
  have l1 : Lies cs1 (off + 1) [x1] := fun q v h => by
    rw [U1.rest _ (.inr (by rw [L1]; omega))]
    exact g1 q v h
  refine WR_op rfl rfl ?_
  refine (OW_flatI M.mw M.cw hM1 hT1 (W.room_le hr1 (by decide)) R1 hx1 (l1 0 _ rfl) (hfr.sub 1 1 (by decide)) rfl ⟨?_, ?_⟩)
  rotate_left
  · intro c a p s' Lp' cs' hs hM' hz
    exact ⟨_, rfl, c, a, p, s', Lp', cs', W.bad_cat [.ww, .ww] [x2, x3] (W.cat_bad A1 O1 hs) (Oks.app O1 ho1), rfl, by rw [List.set_set], hM', hz.trans U1.size⟩
  intro s2 us1 Lp2 cs2 hs1 hM2 hu1 hT2
  have n1 : us1.length = 1 := W.stps_len hs1 ho1
  have U2 := U1.app hu1 (by rw [L1])
  have L2 := (show (([] ++ us0) ++ us1).length = 2 by rw [List.length_append, L1, n1])
  have A2 := W.cat_ok A1 O1 hs1
  have O2 := Oks.app O1 ho1
  have hr2 := W.stps_room (n := 2) hs1 ho1 (W.room_le hr1 (by decide))
  rw [List.set_set] at hT2
  rw [List.set_set]
  have R2 := get_set_self hR (b, Obj.cells cs2 E fr)
  refine ⟨(fun q hq => (by cases hq)), ?_⟩
  repeat (first | refine RQr ?_ | (refine RX ?_; (first | refine QW_of (Qt_nilCheck_m rfl) ?_)) | refine RC ?_ | refine RU ?_ | refine WC_draw_all (id := 1) 8 (Cs [0,1,2,3,4,5,6] <| .must 7 <| .done) mixed (by kernel_rfl) ?_)
  refine WC_draw_sub (id := 2) 8 (Cs [0,1,2,3,4,5,6] <| .must 7 <| .done) mixed (by kernel_rfl) (List.nil_sublist _) ?_
  repeat (first | refine RQr ?_ | (refine RX ?_; (first | refine QW_of (Qt_nilCheck_m rfl) ?_)) | refine RC ?_ | refine RU ?_ | refine WC_draw_all (id := 2) 8 (Cs [0,1,2,3,4,5,6] <| .must 7 <| .done) mixed (by kernel_rfl) ?_)
  have l2 : Lies cs2 (off + 2) [x2] := fun q v h => by
    rw [U2.rest _ (.inr (by rw [L2]; omega))]
    exact g2 q v h
  refine WR_op rfl rfl ?_
  refine (OW_flatI M.mw M.cw hM2 hT2 (W.room_le hr2 (by decide)) R2 hx2 (l2 0 _ rfl) (hfr.sub 2 1 (by decide)) rfl ⟨?_, ?_⟩)
  rotate_left
  · intro c a p s' Lp' cs' hs hM' hz
    exact ⟨_, rfl, c, a, p, s', Lp', cs', W.bad_cat [.ww] [x3] (W.cat_bad A2 O2 hs) (Oks.app O2 ho2), rfl, by rw [List.set_set], hM', hz.trans U2.size⟩
  intro s3 us2 Lp3 cs3 hs2 hM3 hu2 hT3
  have n2 : us2.length = 1 := W.stps_len hs2 ho2
  have U3 := U2.app hu2 (by rw [L2])
  have L3 := (show ((([] ++ us0) ++ us1) ++ us2).length = 3 by rw [List.length_append, L2, n2])
  have A3 := W.cat_ok A2 O2 hs2
  have O3 := Oks.app O2 ho2
  have hr3 := W.stps_room (n := 1) hs2 ho2 (W.room_le hr2 (by decide))
  rw [List.set_set] at hT3
  rw [List.set_set]
  have R3 := get_set_self hR (b, Obj.cells cs3 E fr)
  refine ⟨(fun q hq => (by cases hq)), ?_⟩
  repeat (first | refine RQr ?_ | (refine RX ?_; (first | refine QW_of (Qt_nilCheck_m rfl) ?_)) | refine RC ?_ | refine RU ?_ | refine WC_draw_all (id := 2) 8 (Cs [0,1,2,3,4,5,6] <| .must 7 <| .done) mixed (by kernel_rfl) ?_)
  repeat (first | refine RQ ?_ | (refine WL_Q ?_; (first | refine QW_of (Qt_nilCheck_m rfl) ?_)) | refine RC ?_ | refine WG 3 ?_)
  have l3 : Lies cs3 (off + 3) [x3] := fun q v h => by
    rw [U3.rest _ (.inr (by rw [L3]; omega))]
    exact g3 q v h
  refine WL_op rfl ?_
  refine (OW_flatF (small_flat M) hM3 hT3 (W.room_le hr3 (by decide)) R3 ho3 l3 (hfr.sub 3 1 (by decide)) rfl ⟨?_, ?_⟩)
  rotate_left
  · intro c a p s' Lp' cs' hs hM' hz
    exact ⟨_, rfl, c, a, p, s', Lp', cs', W.bad_cat [] [] (W.cat_bad A3 O3 hs) (Oks.app O3 ho3), rfl, by rw [List.set_set], hM', hz.trans U3.size⟩
  intro s4 us3 Lp4 cs4 hs3 hM4 hu3 hT4
  have n3 : us3.length = 1 := W.stps_len hs3 ho3
  have U4 := U3.app hu3 (by rw [L3])
  have L4 := (show (((([] ++ us0) ++ us1) ++ us2) ++ us3).length = 4 by rw [List.length_append, L3, n3])
  have A4 := W.cat_ok A3 O3 hs3
  have O4 := Oks.app O3 ho3
  have hr4 := W.stps_room (n := 0) hs3 ho3 (W.room_le hr3 (by decide))
  rw [List.set_set] at hT4
  rw [List.set_set]
  have R4 := get_set_self hR (b, Obj.cells cs4 E fr)
  repeat (first | refine RQ ?_ | (refine WL_Q ?_; (first | refine QW_of (Qt_nilCheck_m rfl) ?_)) | refine RC ?_ | refine WG 3 ?_)
  exact ⟨.tuple #[], _, Res0 rfl, .refl _, rfl, s4, _, Lp4, cs4, A4, rfl, hM4, U4, hT4⟩
set_option maxHeartbeats 4000000 in
theorem acc_flat : Flat W 135 W.recv accF := by
  intro s Lp R i b cs E fr off vs hM0 hT0 hr0 hR hv hl hfr
  obtain ⟨x0, vs, rfl, hx0, hv⟩ := hv.split
  obtain ⟨x1, vs, rfl, hx1, hv⟩ := hv.split
  obtain ⟨x2, vs, rfl, hx2, hv⟩ := hv.split
  obtain ⟨x3, vs, rfl, hx3, hv⟩ := hv.split
  obtain ⟨x4, vs, rfl, hx4, hv⟩ := hv.split
  obtain rfl := hv.nil
  have ho0 : Oks [.ww] [x0] := ⟨hx0, trivial⟩
  have g0 : Lies cs (off + 0) [x0] := hl.cut 0 1
  have ho1 : Oks [.ww] [x1] := ⟨hx1, trivial⟩
  have g1 : Lies cs (off + 1) [x1] := hl.cut 1 1
  have ho2 : Oks [.nn] [x2] := ⟨hx2, trivial⟩
  have g2 : Lies cs (off + 2) [x2] := hl.cut 2 1
  have ho3 : Oks [.ww] [x3] := ⟨hx3, trivial⟩
  have g3 : Lies cs (off + 3) [x3] := hl.cut 3 1
  have ho4 : Oks [.ww] [x4] := ⟨hx4, trivial⟩
  have g4 : Lies cs (off + 4) [x4] := hl.cut 4 1
  have qw := M.mw
  have pw := M.iw
  have qn := M.mn
  have pn := M.jn
  refine FnE_enter Tryz.func135 rfl Tryz.ntmps135 rfl fun g => ?_
  unfold Wy.recv
  have U0 : Upd cs cs off [] := Upd.refl_of (fun j v h => by simp at h)
  have A0 : W.stps [] s [] = .ok s [] := rfl
  have O0 : Oks [] [] := trivial
  have L0 : ([] : List Value).length = 0 := rfl
  repeat (first | refine RQ ?_ | (refine WL_Q ?_; (first | refine QW_of (Qt_nilCheck_m rfl) ?_)) | refine RC ?_)
  refine WC_draw_sub (id := 0) 8 (Cs [0,1,2,3,4,5,6] <| .must 7 <| .done) mixed (by kernel_rfl) (List.nil_sublist _) ?_
  repeat (first | refine RQr ?_ | (refine RX ?_; (first | refine QW_of (Qt_nilCheck_m rfl) ?_)) | refine RC ?_ | refine RU ?_ | refine WC_draw_all (id := 0) 8 (Cs [0,1,2,3,4,5,6] <| .must 7 <| .done) mixed (by kernel_rfl) ?_)
  have l0 : Lies cs (off + 0) [x0] := fun q v h => by
    rw [U0.rest _ (.inr (by rw [L0]; omega))]
    exact g0 q v h
  refine WR_op rfl rfl ?_
  refine (OW_flatI M.mw M.cw hM0 hT0 (W.room_le hr0 (by decide)) hR hx0 (l0 0 _ rfl) (hfr.sub 0 1 (by decide)) rfl ⟨?_, ?_⟩)
  rotate_left
  · intro c a p s' Lp' cs' hs hM' hz
    exact ⟨_, rfl, c, a, p, s', Lp', cs', W.bad_cat [.ww, .nn, .ww, .ww] [x1, x2, x3, x4] (W.cat_bad A0 O0 hs) (Oks.app O0 ho0), rfl, rfl, hM', hz.trans U0.size⟩
  intro s1 us0 Lp1 cs1 hs0 hM1 hu0 hT1
  have n0 : us0.length = 1 := W.stps_len hs0 ho0
  have U1 := U0.app hu0 (by rw [L0])
  have L1 := (show ([] ++ us0).length = 1 by rw [List.length_append, L0, n0])
  have A1 := W.cat_ok A0 O0 hs0
  have O1 := Oks.app O0 ho0
  have hr1 := W.stps_room (n := 4) hs0 ho0 (W.room_le hr0 (by decide))
  have R1 := get_set_self hR (b, Obj.cells cs1 E fr)
  refine ⟨(fun q hq => (by cases hq)), ?_⟩
  repeat (first | refine RQr ?_ | (refine RX ?_; (first | refine QW_of (Qt_nilCheck_m rfl) ?_)) | refine RC ?_ | refine RU ?_ | refine WC_draw_all (id := 0) 8 (Cs [0,1,2,3,4,5,6] <| .must 7 <| .done) mixed (by kernel_rfl) ?_)
  refine WC_draw_sub (id := 1) 8 (Cs [0,1,2,3,4,5,6] <| .must 7 <| .done) mixed (by kernel_rfl) (List.nil_sublist _) ?_
  repeat (first | refine RQr ?_ | (refine RX ?_; (first | refine QW_of (Qt_nilCheck_m rfl) ?_)) | refine RC ?_ | refine RU ?_ | refine WC_draw_all (id := 1) 8 (Cs [0,1,2,3,4,5,6] <| .must 7 <| .done) mixed (by kernel_rfl) ?_)
  have l1 : Lies cs1 (off + 1) [x1] := fun q v h => by
    rw [U1.rest _ (.inr (by rw [L1]; omega))]
    exact g1 q v h
  refine WR_op rfl rfl ?_
  refine (OW_flatI M.mw M.cw hM1 hT1 (W.room_le hr1 (by decide)) R1 hx1 (l1 0 _ rfl) (hfr.sub 1 1 (by decide)) rfl ⟨?_, ?_⟩)
  rotate_left
  · intro c a p s' Lp' cs' hs hM' hz
    exact ⟨_, rfl, c, a, p, s', Lp', cs', W.bad_cat [.nn, .ww, .ww] [x2, x3, x4] (W.cat_bad A1 O1 hs) (Oks.app O1 ho1), rfl, by rw [List.set_set], hM', hz.trans U1.size⟩
  intro s2 us1 Lp2 cs2 hs1 hM2 hu1 hT2
  have n1 : us1.length = 1 := W.stps_len hs1 ho1
  have U2 := U1.app hu1 (by rw [L1])
  have L2 := (show (([] ++ us0) ++ us1).length = 2 by rw [List.length_append, L1, n1])
  have A2 := W.cat_ok A1 O1 hs1
  have O2 := Oks.app O1 ho1
  have hr2 := W.stps_room (n := 3) hs1 ho1 (W.room_le hr1 (by decide))
  rw [List.set_set] at hT2
  rw [List.set_set]
  have R2 := get_set_self hR (b, Obj.cells cs2 E fr)
  refine ⟨(fun q hq => (by cases hq)), ?_⟩
  repeat (first | refine RQr ?_ | (refine RX ?_; (first | refine QW_of (Qt_nilCheck_m rfl) ?_)) | refine RC ?_ | refine RU ?_ | refine WC_draw_all (id := 1) 8 (Cs [0,1,2,3,4,5,6] <| .must 7 <| .done) mixed (by kernel_rfl) ?_)
  refine WC_draw_sub (id := 2) 8 (Cs [0,1,2,3,4,5,6] <| .must 7 <| .done) mixed (by kernel_rfl) (List.nil_sublist _) ?_
  repeat (first | refine RQr ?_ | (refine RX ?_; (first | refine QW_of (Qt_nilCheck_m rfl) ?_)) | refine RC ?_ | refine RU ?_ | refine WC_draw_all (id := 2) 8 (Cs [0,1,2,3,4,5,6] <| .must 7 <| .done) mixed (by kernel_rfl) ?_)
  have l2 : Lies cs2 (off + 2) [x2] := fun q v h => by
    rw [U2.rest _ (.inr (by rw [L2]; omega))]
    exact g2 q v h
  refine WR_op rfl rfl ?_
  refine (OW_flatI M.mn M.cn hM2 hT2 (W.room_le hr2 (by decide)) R2 hx2 (l2 0 _ rfl) (hfr.sub 2 1 (by decide)) rfl ⟨?_, ?_⟩)
  rotate_left
  · intro c a p s' Lp' cs' hs hM' hz
    exact ⟨_, rfl, c, a, p, s', Lp', cs', W.bad_cat [.ww, .ww] [x3, x4] (W.cat_bad A2 O2 hs) (Oks.app O2 ho2), rfl, by rw [List.set_set], hM', hz.trans U2.size⟩
  intro s3 us2 Lp3 cs3 hs2 hM3 hu2 hT3
  have n2 : us2.length = 1 := W.stps_len hs2 ho2
  have U3 := U2.app hu2 (by rw [L2])
  have L3 := (show ((([] ++ us0) ++ us1) ++ us2).length = 3 by rw [List.length_append, L2, n2])
  have A3 := W.cat_ok A2 O2 hs2
  have O3 := Oks.app O2 ho2
  have hr3 := W.stps_room (n := 2) hs2 ho2 (W.room_le hr2 (by decide))
  rw [List.set_set] at hT3
  rw [List.set_set]
  have R3 := get_set_self hR (b, Obj.cells cs3 E fr)
  refine ⟨(fun q hq => (by cases hq)), ?_⟩
  repeat (first | refine RQr ?_ | (refine RX ?_; (first | refine QW_of (Qt_nilCheck_m rfl) ?_)) | refine RC ?_ | refine RU ?_ | refine WC_draw_all (id := 2) 8 (Cs [0,1,2,3,4,5,6] <| .must 7 <| .done) mixed (by kernel_rfl) ?_)
  refine WC_draw_sub (id := 3) 8 (Cs [0,1,2,3,4,5,6] <| .must 7 <| .done) mixed (by kernel_rfl) (List.nil_sublist _) ?_
  repeat (first | refine RQr ?_ | (refine RX ?_; (first | refine QW_of (Qt_nilCheck_m rfl) ?_)) | refine RC ?_ | refine RU ?_ | refine WC_draw_all (id := 3) 8 (Cs [0,1,2,3,4,5,6] <| .must 7 <| .done) mixed (by kernel_rfl) ?_)
  have l3 : Lies cs3 (off + 3) [x3] := fun q v h => by
    rw [U3.rest _ (.inr (by rw [L3]; omega))]
    exact g3 q v h
  refine WR_op rfl rfl ?_
  refine (OW_flatI M.mw M.cw hM3 hT3 (W.room_le hr3 (by decide)) R3 hx3 (l3 0 _ rfl) (hfr.sub 3 1 (by decide)) rfl ⟨?_, ?_⟩)
  rotate_left
  · intro c a p s' Lp' cs' hs hM' hz
    exact ⟨_, rfl, c, a, p, s', Lp', cs', W.bad_cat [.ww] [x4] (W.cat_bad A3 O3 hs) (Oks.app O3 ho3), rfl, by rw [List.set_set], hM', hz.trans U3.size⟩
  intro s4 us3 Lp4 cs4 hs3 hM4 hu3 hT4
  have n3 : us3.length = 1 := W.stps_len hs3 ho3
  have U4 := U3.app hu3 (by rw [L3])
  have L4 := (show (((([] ++ us0) ++ us1) ++ us2) ++ us3).length = 4 by rw [List.length_append, L3, n3])
  have A4 := W.cat_ok A3 O3 hs3
  have O4 := Oks.app O3 ho3
  have hr4 := W.stps_room (n := 1) hs3 ho3 (W.room_le hr3 (by decide))
  rw [List.set_set] at hT4
  rw [List.set_set]
  have R4 := get_set_self hR (b, Obj.cells cs4 E fr)
  refine ⟨(fun q hq => (by cases hq)), ?_⟩
  repeat (first | refine RQr ?_ | (refine RX ?_; (first | refine QW_of (Qt_nilCheck_m rfl) ?_)) | refine RC ?_ | refine RU ?_ | refine WC_draw_all (id := 3) 8 (Cs [0,1,2,3,4,5,6] <| .must 7 <| .done) mixed (by kernel_rfl) ?_)
  refine WC_draw_sub (id := 4) 8 (Cs [0,1,2,3,4,5,6] <| .must 7 <| .done) mixed (by kernel_rfl) (List.nil_sublist _) ?_
  repeat (first | refine RQr ?_ | (refine RX ?_; (first | refine QW_of (Qt_nilCheck_m rfl) ?_)) | refine RC ?_ | refine RU ?_ | refine WC_draw_all (id := 4) 8 (Cs [0,1,2,3,4,5,6] <| .must 7 <| .done) mixed (by kernel_rfl) ?_)
  have l4 : Lies cs4 (off + 4) [x4] := fun q v h => by
    rw [U4.rest _ (.inr (by rw [L4]; omega))]
    exact g4 q v h
  refine WR_op rfl rfl ?_
  refine (OW_flatI M.mw M.cw hM4 hT4 (W.room_le hr4 (by decide)) R4 hx4 (l4 0 _ rfl) (hfr.sub 4 1 (by decide)) rfl ⟨?_, ?_⟩)
  rotate_left
  · intro c a p s' Lp' cs' hs hM' hz
    exact ⟨_, rfl, c, a, p, s', Lp', cs', W.bad_cat [] [] (W.cat_bad A4 O4 hs) (Oks.app O4 ho4), rfl, by rw [List.set_set], hM', hz.trans U4.size⟩
  intro s5 us4 Lp5 cs5 hs4 hM5 hu4 hT5
  have n4 : us4.length = 1 := W.stps_len hs4 ho4
  have U5 := U4.app hu4 (by rw [L4])
  have L5 := (show ((((([] ++ us0) ++ us1) ++ us2) ++ us3) ++ us4).length = 5 by rw [List.length_append, L4, n4])
  have A5 := W.cat_ok A4 O4 hs4
  have O5 := Oks.app O4 ho4
  have hr5 := W.stps_room (n := 0) hs4 ho4 (W.room_le hr4 (by decide))
  rw [List.set_set] at hT5
  rw [List.set_set]
  have R5 := get_set_self hR (b, Obj.cells cs5 E fr)
  refine ⟨(fun q hq => (by cases hq)), ?_⟩
  repeat (first | refine RQr ?_ | (refine RX ?_; (first | refine QW_of (Qt_nilCheck_m rfl) ?_)) | refine RC ?_ | refine RU ?_ | refine WC_draw_all (id := 4) 8 (Cs [0,1,2,3,4,5,6] <| .must 7 <| .done) mixed (by kernel_rfl) ?_)
  exact ⟨.tuple #[], _, Res0 rfl, .refl _, rfl, s5, _, Lp5, cs5, A5, rfl, hM5, U5, hT5⟩
set_option maxHeartbeats 4000000 in
theorem entry_flat : Flat W 123 W.recv entryF := by
  intro s Lp R i b cs E fr off vs hM0 hT0 hr0 hR hv hl hfr
  obtain ⟨x0, vs, rfl, hx0, hv⟩ := hv.split
  obtain ⟨x1, vs, rfl, hx1, hv⟩ := hv.split
  obtain ⟨x2, vs, rfl, hx2, hv⟩ := hv.split
  obtain ⟨x3, vs, rfl, hx3, hv⟩ := hv.split
  obtain ⟨x4, vs, rfl, hx4, hv⟩ := hv.split
  obtain ⟨x5, vs, rfl, hx5, hv⟩ := hv.split
  obtain ⟨x6, vs, rfl, hx6, hv⟩ := hv.split
  obtain ⟨x7, vs, rfl, hx7, hv⟩ := hv.split
  obtain ⟨x8, vs, rfl, hx8, hv⟩ := hv.split
  obtain ⟨x9, vs, rfl, hx9, hv⟩ := hv.split
  obtain rfl := hv.nil
  have ho0 : Oks [.ww] [x0] := ⟨hx0, trivial⟩
  have g0 : Lies cs (off + 0) [x0] := hl.cut 0 1
  have ho1 : Oks [.kk] [x1] := ⟨hx1, trivial⟩
  have g1 : Lies cs (off + 1) [x1] := hl.cut 1 1
  have ho2 : Oks [.ww] [x2] := ⟨hx2, trivial⟩
  have g2 : Lies cs (off + 2) [x2] := hl.cut 2 1
  have ho3 : Oks [.ww] [x3] := ⟨hx3, trivial⟩
  have g3 : Lies cs (off + 3) [x3] := hl.cut 3 1
  have ho4 : Oks [.bb] [x4] := ⟨hx4, trivial⟩
  have g4 : Lies cs (off + 4) [x4] := hl.cut 4 1
  have ho5 : Oks [.ww, .ww, .nn, .ww, .ww] [x5, x6, x7, x8, x9] := ⟨hx5, hx6, hx7, hx8, hx9, trivial⟩
  have g5 : Lies cs (off + 5) [x5, x6, x7, x8, x9] := hl.cut 5 5
  have qw := M.mw
  have pw := M.iw
  have qb := M.mo
  have pb := M.io
  refine FnE_enter Tryz.func123 rfl Tryz.ntmps123 rfl fun g => ?_
  unfold Wy.recv
  have U0 : Upd cs cs off [] := Upd.refl_of (fun j v h => by simp at h)
  have A0 : W.stps [] s [] = .ok s [] := rfl
  have O0 : Oks [] [] := trivial
  have L0 : ([] : List Value).length = 0 := rfl
  repeat (first | refine RQ ?_ | (refine WL_Q ?_; (first | refine QW_of (Qt_nilCheck_m rfl) ?_)) | refine RC ?_ | refine WG 0 ?_)
  have l0 : Lies cs (off + 0) [x0] := fun q v h => by
    rw [U0.rest _ (.inr (by rw [L0]; omega))]
    exact g0 q v h
  refine WL_op rfl ?_
  refine (OW_flatF (small_flat M) hM0 hT0 (W.room_le hr0 (by decide)) hR ho0 l0 (hfr.sub 0 1 (by decide)) rfl ⟨?_, ?_⟩)
  rotate_left
  · intro c a p s' Lp' cs' hs hM' hz
    exact ⟨_, rfl, c, a, p, s', Lp', cs', W.bad_cat [.kk, .ww, .ww, .bb, .ww, .ww, .nn, .ww, .ww] [x1, x2, x3, x4, x5, x6, x7, x8, x9] (W.cat_bad A0 O0 hs) (Oks.app O0 ho0), rfl, rfl, hM', hz.trans U0.size⟩
  intro s1 us0 Lp1 cs1 hs0 hM1 hu0 hT1
  have n0 : us0.length = 1 := W.stps_len hs0 ho0
  have U1 := U0.app hu0 (by rw [L0])
  have L1 := (show ([] ++ us0).length = 1 by rw [List.length_append, L0, n0])
  have A1 := W.cat_ok A0 O0 hs0
  have O1 := Oks.app O0 ho0
  have hr1 := W.stps_room (n := 9) hs0 ho0 (W.room_le hr0 (by decide))
  have R1 := get_set_self hR (b, Obj.cells cs1 E fr)
  repeat (first | refine RQ ?_ | (refine WL_Q ?_; (first | refine QW_of (Qt_nilCheck_m rfl) ?_)) | refine RC ?_ | refine WG 0 ?_)
  repeat (first | refine RQ ?_ | (refine WL_Q ?_; (first | refine QW_of (Qt_nilCheck_m rfl) ?_)) | refine RC ?_ | refine WG 1 ?_)
  have l1 : Lies cs1 (off + 1) [x1] := fun q v h => by
    rw [U1.rest _ (.inr (by rw [L1]; omega))]
    exact g1 q v h
  refine WL_op rfl ?_
  refine (OW_flatF (key_flat M) hM1 hT1 (W.room_le hr1 (by decide)) R1 ho1 l1 (hfr.sub 1 1 (by decide)) rfl ⟨?_, ?_⟩)
  rotate_left
  · intro c a p s' Lp' cs' hs hM' hz
    exact ⟨_, rfl, c, a, p, s', Lp', cs', W.bad_cat [.ww, .ww, .bb, .ww, .ww, .nn, .ww, .ww] [x2, x3, x4, x5, x6, x7, x8, x9] (W.cat_bad A1 O1 hs) (Oks.app O1 ho1), rfl, by rw [List.set_set], hM', hz.trans U1.size⟩
  intro s2 us1 Lp2 cs2 hs1 hM2 hu1 hT2
  have n1 : us1.length = 1 := W.stps_len hs1 ho1
  have U2 := U1.app hu1 (by rw [L1])
  have L2 := (show (([] ++ us0) ++ us1).length = 2 by rw [List.length_append, L1, n1])
  have A2 := W.cat_ok A1 O1 hs1
  have O2 := Oks.app O1 ho1
  have hr2 := W.stps_room (n := 8) hs1 ho1 (W.room_le hr1 (by decide))
  rw [List.set_set] at hT2
  rw [List.set_set]
  have R2 := get_set_self hR (b, Obj.cells cs2 E fr)
  repeat (first | refine RQ ?_ | (refine WL_Q ?_; (first | refine QW_of (Qt_nilCheck_m rfl) ?_)) | refine RC ?_ | refine WG 1 ?_)
  refine WC_draw_sub (id := 2) 8 (Cs [0,1,2,3,4,5,6] <| .must 7 <| .done) mixed (by kernel_rfl) (List.nil_sublist _) ?_
  repeat (first | refine RQr ?_ | (refine RX ?_; (first | refine QW_of (Qt_nilCheck_m rfl) ?_)) | refine RC ?_ | refine RU ?_ | refine WC_draw_all (id := 2) 8 (Cs [0,1,2,3,4,5,6] <| .must 7 <| .done) mixed (by kernel_rfl) ?_)
  have l2 : Lies cs2 (off + 2) [x2] := fun q v h => by
    rw [U2.rest _ (.inr (by rw [L2]; omega))]
    exact g2 q v h
  refine WR_op rfl rfl ?_
  refine (OW_flatI M.mw M.cw hM2 hT2 (W.room_le hr2 (by decide)) R2 hx2 (l2 0 _ rfl) (hfr.sub 2 1 (by decide)) rfl ⟨?_, ?_⟩)
  rotate_left
  · intro c a p s' Lp' cs' hs hM' hz
    exact ⟨_, rfl, c, a, p, s', Lp', cs', W.bad_cat [.ww, .bb, .ww, .ww, .nn, .ww, .ww] [x3, x4, x5, x6, x7, x8, x9] (W.cat_bad A2 O2 hs) (Oks.app O2 ho2), rfl, by rw [List.set_set], hM', hz.trans U2.size⟩
  intro s3 us2 Lp3 cs3 hs2 hM3 hu2 hT3
  have n2 : us2.length = 1 := W.stps_len hs2 ho2
  have U3 := U2.app hu2 (by rw [L2])
  have L3 := (show ((([] ++ us0) ++ us1) ++ us2).length = 3 by rw [List.length_append, L2, n2])
  have A3 := W.cat_ok A2 O2 hs2
  have O3 := Oks.app O2 ho2
  have hr3 := W.stps_room (n := 7) hs2 ho2 (W.room_le hr2 (by decide))
  rw [List.set_set] at hT3
  rw [List.set_set]
  have R3 := get_set_self hR (b, Obj.cells cs3 E fr)
  refine ⟨(fun q hq => (by cases hq)), ?_⟩
  repeat (first | refine RQr ?_ | (refine RX ?_; (first | refine QW_of (Qt_nilCheck_m rfl) ?_)) | refine RC ?_ | refine RU ?_ | refine WC_draw_all (id := 2) 8 (Cs [0,1,2,3,4,5,6] <| .must 7 <| .done) mixed (by kernel_rfl) ?_)
  refine WC_draw_sub (id := 3) 8 (Cs [0,1,2,3,4,5,6] <| .must 7 <| .done) mixed (by kernel_rfl) (List.nil_sublist _) ?_
  repeat (first | refine RQr ?_ | (refine RX ?_; (first | refine QW_of (Qt_nilCheck_m rfl) ?_)) | refine RC ?_ | refine RU ?_ | refine WC_draw_all (id := 3) 8 (Cs [0,1,2,3,4,5,6] <| .must 7 <| .done) mixed (by kernel_rfl) ?_)
  have l3 : Lies cs3 (off + 3) [x3] := fun q v h => by
    rw [U3.rest _ (.inr (by rw [L3]; omega))]
    exact g3 q v h
  refine WR_op rfl rfl ?_
  refine (OW_flatI M.mw M.cw hM3 hT3 (W.room_le hr3 (by decide)) R3 hx3 (l3 0 _ rfl) (hfr.sub 3 1 (by decide)) rfl ⟨?_, ?_⟩)
  rotate_left
  · intro c a p s' Lp' cs' hs hM' hz
    exact ⟨_, rfl, c, a, p, s', Lp', cs', W.bad_cat [.bb, .ww, .ww, .nn, .ww, .ww] [x4, x5, x6, x7, x8, x9] (W.cat_bad A3 O3 hs) (Oks.app O3 ho3), rfl, by rw [List.set_set], hM', hz.trans U3.size⟩
  intro s4 us3 Lp4 cs4 hs3 hM4 hu3 hT4
  have n3 : us3.length = 1 := W.stps_len hs3 ho3
  have U4 := U3.app hu3 (by rw [L3])
  have L4 := (show (((([] ++ us0) ++ us1) ++ us2) ++ us3).length = 4 by rw [List.length_append, L3, n3])
  have A4 := W.cat_ok A3 O3 hs3
  have O4 := Oks.app O3 ho3
  have hr4 := W.stps_room (n := 6) hs3 ho3 (W.room_le hr3 (by decide))
  rw [List.set_set] at hT4
  rw [List.set_set]
  have R4 := get_set_self hR (b, Obj.cells cs4 E fr)
  refine ⟨(fun q hq => (by cases hq)), ?_⟩
  repeat (first | refine RQr ?_ | (refine RX ?_; (first | refine QW_of (Qt_nilCheck_m rfl) ?_)) | refine RC ?_ | refine RU ?_ | refine WC_draw_all (id := 3) 8 (Cs [0,1,2,3,4,5,6] <| .must 7 <| .done) mixed (by kernel_rfl) ?_)
  refine WC_draw_sub (id := 4) 8 (Cs [0,1,2,3,4,5,6] <| .must 7 <| .done) mixed (by kernel_rfl) (List.nil_sublist _) ?_
  repeat (first | refine RQr ?_ | (refine RX ?_; (first | refine QW_of (Qt_nilCheck_m rfl) ?_)) | refine RC ?_ | refine RU ?_ | refine WC_draw_all (id := 4) 8 (Cs [0,1,2,3,4,5,6] <| .must 7 <| .done) mixed (by kernel_rfl) ?_)
  have l4 : Lies cs4 (off + 4) [x4] := fun q v h => by
    rw [U4.rest _ (.inr (by rw [L4]; omega))]
    exact g4 q v h
  refine WR_op rfl rfl ?_
  refine (OW_flatI M.mo M.co hM4 hT4 (W.room_le hr4 (by decide)) R4 hx4 (l4 0 _ rfl) (hfr.sub 4 1 (by decide)) rfl ⟨?_, ?_⟩)
  rotate_left
  · intro c a p s' Lp' cs' hs hM' hz
    exact ⟨_, rfl, c, a, p, s', Lp', cs', W.bad_cat [.ww, .ww, .nn, .ww, .ww] [x5, x6, x7, x8, x9] (W.cat_bad A4 O4 hs) (Oks.app O4 ho4), rfl, by rw [List.set_set], hM', hz.trans U4.size⟩
  intro s5 us4 Lp5 cs5 hs4 hM5 hu4 hT5
  have n4 : us4.length = 1 := W.stps_len hs4 ho4
  have U5 := U4.app hu4 (by rw [L4])
  have L5 := (show ((((([] ++ us0) ++ us1) ++ us2) ++ us3) ++ us4).length = 5 by rw [List.length_append, L4, n4])
  have A5 := W.cat_ok A4 O4 hs4
  have O5 := Oks.app O4 ho4
  have hr5 := W.stps_room (n := 5) hs4 ho4 (W.room_le hr4 (by decide))
  rw [List.set_set] at hT5
  rw [List.set_set]
  have R5 := get_set_self hR (b, Obj.cells cs5 E fr)
  refine ⟨(fun q hq => (by cases hq)), ?_⟩
  repeat (first | refine RQr ?_ | (refine RX ?_; (first | refine QW_of (Qt_nilCheck_m rfl) ?_)) | refine RC ?_ | refine RU ?_ | refine WC_draw_all (id := 4) 8 (Cs [0,1,2,3,4,5,6] <| .must 7 <| .done) mixed (by kernel_rfl) ?_)
  repeat (first | refine RQ ?_ | (refine WL_Q ?_; (first | refine QW_of (Qt_nilCheck_m rfl) ?_)) | refine RC ?_ | refine WG 5 ?_)
  have l5 : Lies cs5 (off + 5) [x5, x6, x7, x8, x9] := fun q v h => by
    rw [U5.rest _ (.inr (by rw [L5]; omega))]
    exact g5 q v h
  refine WL_op rfl ?_
  refine (OW_flatF (acc_flat M) hM5 hT5 (W.room_le hr5 (by decide)) R5 ho5 l5 (hfr.sub 5 5 (by decide)) rfl ⟨?_, ?_⟩)
  rotate_left
  · intro c a p s' Lp' cs' hs hM' hz
    exact ⟨_, rfl, c, a, p, s', Lp', cs', W.bad_cat [] [] (W.cat_bad A5 O5 hs) (Oks.app O5 ho5), rfl, by rw [List.set_set], hM', hz.trans U5.size⟩
  intro s6 us5 Lp6 cs6 hs5 hM6 hu5 hT6
  have n5 : us5.length = 5 := W.stps_len hs5 ho5
  have U6 := U5.app hu5 (by rw [L5])
  have L6 := (show (((((([] ++ us0) ++ us1) ++ us2) ++ us3) ++ us4) ++ us5).length = 10 by rw [List.length_append, L5, n5])
  have A6 := W.cat_ok A5 O5 hs5
  have O6 := Oks.app O5 ho5
  have hr6 := W.stps_room (n := 0) hs5 ho5 (W.room_le hr5 (by decide))
  rw [List.set_set] at hT6
  rw [List.set_set]
  have R6 := get_set_self hR (b, Obj.cells cs6 E fr)
  repeat (first | refine RQ ?_ | (refine WL_Q ?_; (first | refine QW_of (Qt_nilCheck_m rfl) ?_)) | refine RC ?_ | refine WG 5 ?_)
  exact ⟨.tuple #[], _, Res0 rfl, .refl _, rfl, s6, _, Lp6, cs6, A6, rfl, hM6, U6, hT6⟩
end
end Go.Proofs.YtdiaogcogkapgaaGreatDoor
namespace Go.Proofs.YtdiaogcogkapgaaGreatDoor
open Go.RowKit
attribute [local irreducible] Fn WC WL WR OW Qt YieldFn QW FnP FnD FnE
def PMem (pb : Nat) (T0 : List (Nat × Obj)) (n0 : Nat) (bs : List UInt8) (Lp : List (Nat × Obj)) : Prop :=
  ∃ v T, Lp = T ++ [(pb, .cells #[v] 179 (0, 0))] ∧ ByAt (T ++ T0) v bs ∧
    ((T = [] ∧ bs.length = n0 ∧ ∃ a, v = .slice a bs.length bs.length) ∨ ∃ g off cap cur, v = .slice (some ⟨g, off, none⟩) bs.length cap ∧ T = [(g, .cells cur 5 (0, 0))] ∧ Own 1 cur off cap bs.length (bs.map bV))
theorem enc_len_ok {k : Fk} {x : Value} (h : k.ok x) : (k.enc x).length ≤ 10 := by
  cases k with
  | ww => obtain ⟨x, rfl, h0, h1⟩ := h; exact enc_len (zz_lt h0 h1)
  | nn => obtain ⟨x, rfl, h0, h1⟩ := h; exact enc_len (by omega)
  | kk => obtain ⟨x, rfl, h0, h1⟩ := h; exact enc_len (by omega)
  | tt => obtain ⟨x, rfl⟩ := h; cases x <;> simp [Fk.enc, encB]
  | bb => obtain ⟨x, rfl⟩ := h; simp [Fk.enc, bV]
def putW (pb : Nat) (T0 : List (Nat × Obj)) (n0 : Nat) : Wy Tryz.prog where
  S := List UInt8
  t := 177
  v := .pointer (some ⟨pb, 0, none⟩)
  T0 := T0
  mem := PMem pb T0 n0
  room := fun bs n => bs.length + 10 * n ≤ 1000000000
  stp := fun k bs x => .ok (bs ++ k.enc x) x
  hr := fun bs => bs
  mst := fun _ _ _ => none
  hr_room := fun h => h
  key_ok := fun h0 h1 h _ => by cases h; exact ⟨rfl, h1⟩
  key_bad := fun h => by cases h
  key_must := fun _ h => by cases h
  keeps := .inr fun _ _ _ _ _ h => by cases h; rfl
  stp_ok := fun h ho => by cases h; exact ho
  stp_room := fun h ho hr => by
    cases h
    have := enc_len_ok ho
    rw [List.length_append]
    omega
  room_le := fun h hm => by omega
theorem putW_stps (pb : Nat) (T0 : List (Nat × Obj)) (n0 : Nat) : ∀ {fs : List Fk} {bs : List UInt8} {vs : List Value}, Oks fs vs → (putW pb T0 n0).stps fs bs vs = .ok (bs ++ encs fs vs) vs
  | [], bs, [], _ => by simp [Wy.stps, encs]
  | k :: ks, bs, v :: vs, h => by
    have ih := putW_stps pb T0 n0 (fs := ks) (bs := bs ++ k.enc v) h.2
    simp only [Wy.stps]
    have e : (putW pb T0 n0).stp k bs v = .ok (bs ++ k.enc v) v := rfl
    rw [e]
    simp only
    rw [ih, List.append_assoc]
    rfl
  | [], _, _ :: _, h => h.elim
  | _ :: _, _, [], h => h.elim
section
variable {pb : Nat} {T0 : List (Nat × Obj)} {n0 : Nat}
theorem put_after {R : List (Nat × Obj)} (hT : ∀ q ∈ T0, q ∈ R) {bs bs' : List UInt8} {i b : Nat} {cs : Array Value} {E : TypeId} {fr : Nat × Nat} {off : Nat} {x : Value} {k : Fk} (hR : R[i]? = some (b, .cells cs E fr)) (hl : cs[off]? = some x) (he : bs' = bs ++ k.enc x) {g off' cap : Nat} {cur : Array Value} (ho : Own 1 cur off' cap bs'.length (bs'.map bV)) :
    FRet (putW pb T0 n0) ((putW pb T0 n0).stps [k] bs [x]) R i b cs E fr off ((g, .cells cur 5 (0, 0)) :: (pb, .cells #[.slice (some ⟨g, off', none⟩) bs'.length cap] 179 (0, 0)) :: R) := by
  subst he
  refine ⟨bs ++ k.enc x, [x], [(g, .cells cur 5 (0, 0))] ++ [(pb, .cells #[.slice (some ⟨g, off', none⟩) (bs ++ k.enc x).length cap] 179 (0, 0))], cs, rfl, by rw [set_same hR]; rfl, ⟨_, _, rfl, (show ByAt ([(g, Obj.cells cur 5 (0, 0))] ++ T0) _ _ from own_by0 ho), .inr ⟨g, off', cap, cur, rfl, rfl, ho⟩⟩, Upd.refl_of fun j v h => ?_, by rw [set_same hR]; exact hT⟩
  cases j with
  | zero => simp at h; subst h; exact hl
  | succ j => simp at h
theorem put_by {sl : Value} {T R : List (Nat × Obj)} {bs : List UInt8} {q : Nat × Obj} (hT : ∀ q ∈ T0, q ∈ R) (hb0 : ByAt (T ++ T0) sl bs) : ByAt ((T ++ [q]) ++ R) sl bs := by
  refine Vec.mono hb0 fun i p hp => ?_
  refine List.mem_iff_getElem?.1 ?_
  have := List.mem_of_getElem? hp
  rcases List.mem_append.1 this with h | h
  · exact List.mem_append_left _ (List.mem_append_left _ h)
  · exact List.mem_append_right _ (hT _ h)
set_option maxHeartbeats 1000000 in
theorem put_whole : Flat (putW pb T0 n0) 174 (.pointer (some ⟨pb, 0, none⟩)) [.ww] := by
  rintro (bs : List UInt8) _ R i b cs E fr off vs ⟨sl, T, rfl, hb0, hT⟩ hT0 hroom hR hv hl _
  obtain ⟨x0, us, rfl, ⟨x, rfl, h0, h1⟩, hv'⟩ := hv.split
  obtain rfl := hv'.nil
  have hc := hl.cons.1
  have hroom : bs.length + 10 * 1 ≤ 1000000000 := hroom
  have hlen : bs.length ≤ 1000000000 := by omega
  have hX := get_app (A := T ++ [(pb, .cells #[sl] 179 (0, 0))]) hR
  have hP : ((T ++ [(pb, .cells #[sl] 179 (0, 0))]) ++ R)[T.length]? = some (pb, .cells #[sl] 179 (0, 0)) := by simp
  have hb := put_by (R := R) (q := (pb, .cells #[sl] 179 (0, 0))) hT0 hb0
  refine FnE.ofFn ?_
  refine Fn_enter Tryz.func174 rfl Tryz.ntmps174 rfl fun g => ?_
  repeat (first | refine RQr ?_ | (refine OX ?_; (first | (refine OE ?_; try intro _) | (refine OW_call rfl (hF := PI_fn hb h0 h1 hlen) (hk := ?_); rintro _ _ ⟨b1, off1, cap1, cur1, rfl, rfl, ho1⟩)); try refine SD ?_) | refine RC ?_ | refine RU ?_ | refine WC_draw_all (id := 0) 9 (Cs [0,1,2,3,4,5,6,7] <| .must 8 <| .must 9 <| .must 10 <| .must 11 <| .done) mixed (by kernel_rfl) ?_ | refine WC_region ?_)
  have hP' : ((b1, Obj.cells cur1 5 (0, 0)) :: ((T ++ [(pb, .cells #[sl] 179 (0, 0))]) ++ R))[T.length + 1]? = some (pb, .cells #[sl] 179 (0, 0)) := hP
  refine WR_late rfl rfl rfl (OW_store1F (v := .slice (some ⟨b1, off1, none⟩) (bs ++ enc (zz x)).length cap1) rfl (off := 0) (cs := #[sl]) (T.length + 1) hP' (by simp) (Free.zero _ _) (WR_nil ?_))
  refine ⟨rfl, _, _, Res0 rfl, ?_, rfl, put_after (g := b1) hT0 hR hc rfl ho1⟩
  rw [show ∀ q : Nat × Obj, ((b1, Obj.cells cur1 5 (0, 0)) :: ((T ++ [(pb, .cells #[sl] 179 (0, 0))]) ++ R)).set (T.length + 1) q = (b1, Obj.cells cur1 5 (0, 0)) :: (T ++ (q :: R)) from fun q => by simp]
  exact .cons_cons _ (List.sublist_append_right _ _)
set_option maxHeartbeats 1000000 in
theorem put_number : Flat (putW pb T0 n0) 171 (.pointer (some ⟨pb, 0, none⟩)) [.nn] := by
  rintro (bs : List UInt8) _ R i b cs E fr off vs ⟨sl, T, rfl, hb0, hT⟩ hT0 hroom hR hv hl _
  obtain ⟨x0, us, rfl, ⟨x, rfl, h0, h1⟩, hv'⟩ := hv.split
  obtain rfl := hv'.nil
  have hc := hl.cons.1
  have hroom : bs.length + 10 * 1 ≤ 1000000000 := hroom
  have hlen : bs.length ≤ 1000000000 := by omega
  have hX := get_app (A := T ++ [(pb, .cells #[sl] 179 (0, 0))]) hR
  have hP : ((T ++ [(pb, .cells #[sl] 179 (0, 0))]) ++ R)[T.length]? = some (pb, .cells #[sl] 179 (0, 0)) := by simp
  have hb := put_by (R := R) (q := (pb, .cells #[sl] 179 (0, 0))) hT0 hb0
  refine FnE.ofFn ?_
  refine Fn_enter Tryz.func171 rfl Tryz.ntmps171 rfl fun g => ?_
  repeat (first | refine RQr ?_ | (refine OX ?_; (first | (refine OE ?_; try intro _) | (refine OW_call rfl (hF := P_fn' hb h0 h1 hlen) (hk := ?_); rintro _ _ ⟨b1, off1, cap1, cur1, rfl, rfl, ho1⟩)); try refine SD ?_) | refine RC ?_ | refine RU ?_ | refine WC_draw_all (id := 0) 9 (Cs [0,1,2,3,4,5,6,7] <| .must 8 <| .must 9 <| .must 10 <| .must 11 <| .done) mixed (by kernel_rfl) ?_ | refine WC_region ?_)
  have hP' : ((b1, Obj.cells cur1 5 (0, 0)) :: ((T ++ [(pb, .cells #[sl] 179 (0, 0))]) ++ R))[T.length + 1]? = some (pb, .cells #[sl] 179 (0, 0)) := hP
  refine WR_late rfl rfl rfl (OW_store1F (v := .slice (some ⟨b1, off1, none⟩) (bs ++ enc x.toNat).length cap1) rfl (off := 0) (cs := #[sl]) (T.length + 1) hP' (by simp) (Free.zero _ _) (WR_nil ?_))
  refine ⟨rfl, _, _, Res0 rfl, ?_, rfl, put_after (g := b1) hT0 hR hc rfl ho1⟩
  rw [show ∀ q : Nat × Obj, ((b1, Obj.cells cur1 5 (0, 0)) :: ((T ++ [(pb, .cells #[sl] 179 (0, 0))]) ++ R)).set (T.length + 1) q = (b1, Obj.cells cur1 5 (0, 0)) :: (T ++ (q :: R)) from fun q => by simp]
  exact .cons_cons _ (List.sublist_append_right _ _)
set_option maxHeartbeats 1000000 in
theorem put_truth : Flat (putW pb T0 n0) 173 (.pointer (some ⟨pb, 0, none⟩)) [.tt] := by
  rintro (bs : List UInt8) _ R i b cs E fr off vs ⟨sl, T, rfl, hb0, hT⟩ hT0 hroom hR hv hl _
  obtain ⟨x0, us, rfl, ⟨x, rfl⟩, hv'⟩ := hv.split
  obtain rfl := hv'.nil
  have hc := hl.cons.1
  have hroom : bs.length + 10 * 1 ≤ 1000000000 := hroom
  have hlen : bs.length ≤ 1000000000 := by omega
  have hX := get_app (A := T ++ [(pb, .cells #[sl] 179 (0, 0))]) hR
  have hP : ((T ++ [(pb, .cells #[sl] 179 (0, 0))]) ++ R)[T.length]? = some (pb, .cells #[sl] 179 (0, 0)) := by simp
  have hb := put_by (R := R) (q := (pb, .cells #[sl] 179 (0, 0))) hT0 hb0
  refine FnE.ofFn ?_
  refine Fn_enter Tryz.func173 rfl Tryz.ntmps173 rfl fun g => ?_
  repeat (first | refine RQr ?_ | (refine OX ?_; (first | (refine OE ?_; try intro _) | (refine OW_call rfl (hF := PBool_fn hb hlen) (hk := ?_); rintro _ _ ⟨b1, off1, cap1, cur1, rfl, rfl, ho1⟩)); try refine SD ?_) | refine RC ?_ | refine RU ?_ | refine WC_draw_all (id := 0) 9 (Cs [0,1,2,3,4,5,6,7] <| .must 8 <| .must 9 <| .must 10 <| .must 11 <| .done) mixed (by kernel_rfl) ?_ | refine WC_region ?_)
  have hP' : ((b1, Obj.cells cur1 5 (0, 0)) :: ((T ++ [(pb, .cells #[sl] 179 (0, 0))]) ++ R))[T.length + 1]? = some (pb, .cells #[sl] 179 (0, 0)) := hP
  refine WR_late rfl rfl rfl (OW_store1F (v := .slice (some ⟨b1, off1, none⟩) (bs ++ encB x).length cap1) rfl (off := 0) (cs := #[sl]) (T.length + 1) hP' (by simp) (Free.zero _ _) (WR_nil ?_))
  refine ⟨rfl, _, _, Res0 rfl, ?_, rfl, put_after (g := b1) hT0 hR hc rfl ho1⟩
  rw [show ∀ q : Nat × Obj, ((b1, Obj.cells cur1 5 (0, 0)) :: ((T ++ [(pb, .cells #[sl] 179 (0, 0))]) ++ R)).set (T.length + 1) q = (b1, Obj.cells cur1 5 (0, 0)) :: (T ++ (q :: R)) from fun q => by simp]
  exact .cons_cons _ (List.sublist_append_right _ _)
set_option maxHeartbeats 1000000 in
theorem put_one : Flat (putW pb T0 n0) 172 (.pointer (some ⟨pb, 0, none⟩)) [.bb] := by
  rintro (bs : List UInt8) _ R i b cs E fr off vs ⟨sl, T, rfl, hb0, hT⟩ hT0 hroom hR hv hl _
  obtain ⟨x0, us, rfl, ⟨x, rfl⟩, hv'⟩ := hv.split
  obtain rfl := hv'.nil
  have hc := hl.cons.1
  have hroom : bs.length + 10 * 1 ≤ 1000000000 := hroom
  have hlen : bs.length ≤ 1000000000 := by omega
  have hX := get_app (A := T ++ [(pb, .cells #[sl] 179 (0, 0))]) hR
  have hP : ((T ++ [(pb, .cells #[sl] 179 (0, 0))]) ++ R)[T.length]? = some (pb, .cells #[sl] 179 (0, 0)) := by simp
  have hb := put_by (R := R) (q := (pb, .cells #[sl] 179 (0, 0))) hT0 hb0
  have e1 : bs ++ [x] = bs ++ Fk.enc .bb (bV x) := by
    show _ = bs ++ [UInt8.ofNat ((x.toNat : Nat) : Int).toNat]
    rw [Int.toNat_natCast, UInt8.ofNat_toNat]
  refine FnE.ofFn ?_
  refine Fn_enter Tryz.func172 rfl Tryz.ntmps172 rfl fun g => ?_
  rcases hT with ⟨rfl, hn0, a, rfl⟩ | ⟨g, goff, gcap, gcur, rfl, rfl, hown⟩
  · repeat (first | refine RQr ?_ | (refine OX ?_; (first | (refine OE ?_; try intro _)); try refine SD ?_) | refine RC ?_ | refine RU ?_ | refine WC_draw_all (id := 0) 10 (Cs [0,1,2,3,4,5,6,7] <| .must 8 <| .must 9 <| .must 10 <| .must 11 <| .must 12 <| .done) mixed (by kernel_rfl) ?_ | refine WC_region ?_)
    rename_i qb
    refine WR_opG rfl rfl (OW_append_new rfl rfl rfl rfl rfl (olds := bs.map bV) (m := 1) (news := [bV x]) (Vec.cons _ hb) (src1 0 rfl) (by omega) (by simp only [maxLen]; omega) (by omega) fun b1 cap1 cur1 ho => ?_)
    refine ⟨(by first | exact fun _ h => h | exact fun _ h => List.Sublist.subset (by repeat (first | exact .refl _ | exact List.nil_sublist _ | exact List.sublist_append_right _ _ | exact List.Sublist.append (.refl _) (List.sublist_append_right _ _) | apply List.Sublist.cons_cons | apply List.Sublist.cons)) h), ?_⟩
    repeat (first | refine RQr ?_ | (refine OX ?_; (first | (refine OE ?_; try intro _)); try refine SD ?_) | refine RC ?_ | refine RU ?_ | refine WC_draw_all (id := 0) 10 (Cs [0,1,2,3,4,5,6,7] <| .must 8 <| .must 9 <| .must 10 <| .must 11 <| .must 12 <| .done) mixed (by kernel_rfl) ?_ | refine WC_region ?_)
    have ho1 : Own 1 cur1 0 cap1 (bs ++ [x]).length ((bs ++ [x]).map bV) := by rw [List.length_append, List.map_append]; exact ho
    have hf := put_after (g := b1) (pb := pb) (T0 := T0) (n0 := n0) hT0 hR hc e1 ho1
    rw [List.length_append] at hf
    exact ⟨rfl, _, _, Res0 rfl, .cons_cons _ (.cons _ (.refl _)), rfl, hf⟩
  · have hX2 : ((pb, Obj.cells #[.slice (some ⟨g, goff, none⟩) bs.length gcap] 179 (0, 0)) :: R)[i + 1]? = some _ := hR
    have hsub : ((pb, Obj.cells #[.slice (some ⟨g, goff, none⟩) bs.length gcap] 179 (0, 0)) :: R).Sublist (([(g, Obj.cells gcur 5 (0, 0))] ++ [(pb, Obj.cells #[.slice (some ⟨g, goff, none⟩) bs.length gcap] 179 (0, 0))]) ++ R) := .cons _ (.refl _)
    refine WC_draw_sub (id := 0) 10 (Cs [0,1,2,3,4,5,6,7] <| .must 8 <| .must 9 <| .must 10 <| .must 11 <| .must 12 <| .done) mixed (by kernel_rfl) (hsub) ?_
    repeat (first | refine RQr ?_ | ((first | refine WL_op rfl ?_ | refine WR_late rfl rfl rfl ?_ | refine WR_op rfl rfl ?_); (first | (refine OE ?_; try intro _)); try refine SD ?_) | refine RC ?_ | refine RU ?_ | refine WC_draw_all (id := 0) 10 (Cs [0,1,2,3,4,5,6,7] <| .must 8 <| .must 9 <| .must 10 <| .must 11 <| .must 12 <| .done) mixed (by kernel_rfl) ?_ | refine WC_region ?_)
    rename_i qb
    refine WR_op rfl rfl (OW_append_own rfl rfl rfl rfl rfl 1 rfl hown (src1 0 rfl) (by simp only [maxLen]; omega) (by omega) fun b1 off1 cap1 cur1 ho => ?_)
    simp only [List.cons_append, List.nil_append, List.set_cons_succ, List.set_cons_zero]
    refine ⟨(by first | exact fun _ h => h | exact fun _ h => List.Sublist.subset (by repeat (first | exact .refl _ | exact List.nil_sublist _ | exact List.sublist_append_right _ _ | exact List.Sublist.append (.refl _) (List.sublist_append_right _ _) | apply List.Sublist.cons_cons | apply List.Sublist.cons)) h), ?_⟩
    repeat (first | refine RQr ?_ | ((first | refine WL_op rfl ?_ | refine WR_late rfl rfl rfl ?_ | refine WR_op rfl rfl ?_); (first | (refine OE ?_; try intro _)); try refine SD ?_) | refine RC ?_ | refine RU ?_ | refine WC_draw_all (id := 0) 10 (Cs [0,1,2,3,4,5,6,7] <| .must 8 <| .must 9 <| .must 10 <| .must 11 <| .must 12 <| .done) mixed (by kernel_rfl) ?_ | refine WC_region ?_)
    have ho1 : Own 1 cur1 off1 cap1 (bs ++ [x]).length ((bs ++ [x]).map bV) := by rw [List.length_append, List.map_append]; exact ho
    have hf := put_after (g := b1) (pb := pb) (T0 := T0) (n0 := n0) hT0 hR hc e1 ho1
    rw [List.length_append] at hf
    exact ⟨rfl, _, _, Res0 rfl, .cons _ (.refl _), rfl, hf⟩
theorem put_here (s : List UInt8) (Lp R : List (Nat × Obj)) (h : PMem pb T0 n0 s Lp) : FnE Tryz.prog 169 [.pointer (some ⟨pb, 0, none⟩)] (Lp ++ R) (fun v L' => v = .tuple #[] ∧ ∃ Lp', L' = Lp' ++ R ∧ PMem pb T0 n0 s Lp') (fun _ _ => False) := by
  refine FnE.ofFn ?_
  refine Fn_enter Tryz.func169 rfl Tryz.ntmps169 rfl fun g => ?_
  repeat (first | refine RQ ?_ | refine RC ?_ | refine WC_region ?_)
  exact ⟨rfl, _, _, Res0 rfl, .refl _, rfl, Lp, rfl, h⟩
theorem put_must (Lp R : List (Nat × Obj)) (b : Bool) (code : Nat) : FnE Tryz.prog 170 [.pointer (some ⟨pb, 0, none⟩), .bool b, .int .i64 code] (Lp ++ R) (fun v L' => v = .tuple #[] ∧ L' = Lp ++ R) (fun _ _ => False) := by
  refine FnE.ofFn ?_
  refine Fn_enter Tryz.func170 rfl Tryz.ntmps170 rfl fun g => ?_
  repeat (first | refine RQ ?_ | refine RC ?_ | refine WC_region ?_)
  exact ⟨rfl, _, _, Res0 rfl, .refl _, rfl, rfl⟩
end
def putM (pb : Nat) (T0 : List (Nat × Obj)) (n0 : Nat) : Meth (putW pb T0 n0) where
  fw := 174
  fn := 171
  ft := 173
  fo := 172
  fh := 169
  fm := 170
  mw := by kernel_rfl
  mn := by kernel_rfl
  mt := by kernel_rfl
  mo := by kernel_rfl
  mh := by kernel_rfl
  mm := by kernel_rfl
  iw := inferInstance
  jn := inferInstance
  it := inferInstance
  io := inferInstance
  ih := inferInstance
  im := inferInstance
  cw := put_whole
  cn := put_number
  ct := put_truth
  co := put_one
  ch := put_here
  cm := fun _ Lp R b code _ => (put_must Lp R b code).mono (fun _ _ ⟨h1, h2⟩ => ⟨h1, h2, rfl⟩) (fun _ _ h => h.elim)
theorem putF {pb : Nat} {T0 : List (Nat × Obj)} {n0 : Nat} {f : FuncId} {a0 : Value} {fs : List Fk} (hC : Flat (putW pb T0 n0) f a0 fs) {bs : List UInt8} {Lp R : List (Nat × Obj)} {i b : Nat} {cs : Array Value} {E : TypeId} {fr : Nat × Nat} {off : Nat} {vs : List Value} (hM : PMem pb T0 n0 bs Lp) (hT : ∀ q ∈ T0, q ∈ R) (hroom : bs.length + 10 * fs.length ≤ 1000000000) (hR : R[i]? = some (b, .cells cs E fr)) (hv : Oks fs vs) (hl : Lies cs off vs) (hfr : Free fr off fs.length) :
    Fn Tryz.prog f [a0, .pointer (some ⟨b, off, none⟩)] (Lp ++ R) (fun v L' => v = .tuple #[] ∧ ∃ Lp', L' = Lp' ++ R ∧ PMem pb T0 n0 (bs ++ encs fs vs) Lp') := by
  have h := hC bs Lp R i b cs E fr off vs hM hT hroom hR hv hl hfr
  rw [putW_stps pb T0 n0 hv] at h
  refine (h.toFn fun u L' ⟨c, a, p, s', Lp', cs', h1, _⟩ => by cases h1).mono fun v L' ⟨h0, s', vs', Lp', cs', h1, h2, h3, h4, _⟩ => ?_
  cases h1
  refine ⟨h0, Lp', ?_, h3⟩
  rw [h2, h4.same hl, set_same hR]
theorem encs_len : ∀ {fs : List Fk} {vs : List Value}, Oks fs vs → (encs fs vs).length ≤ 10 * fs.length
  | [], [], _ => by simp [encs]
  | k :: ks, v :: vs, h => by
    have h1 := enc_len_ok h.1
    have h2 := encs_len h.2
    show (k.enc v ++ encs ks vs).length ≤ _
    rw [List.length_append, List.length_cons]; omega
  | [], _ :: _, h => h.elim
  | _ :: _, [], h => h.elim
theorem encn_len {es : List Fk} : ∀ {vss : List (List Value)}, (∀ vs ∈ vss, Oks es vs) → (vss.flatMap (encs es)).length ≤ 10 * es.length * vss.length
  | [], _ => by simp
  | v :: vss, h => by
    have h1 := encs_len (h v List.mem_cons_self)
    have h2 := encn_len (vss := vss) fun vs hv => h vs (List.mem_cons_of_mem _ hv)
    rw [List.flatMap_cons, List.length_append, List.length_cons, Nat.mul_succ]; omega
theorem encl_len {es : List Fk} {vss : List (List Value)} (h : ∀ vs ∈ vss, Oks es vs) (hn : vss.length ≤ 1000000) : (encl es vss).length ≤ 10 + 10 * es.length * vss.length := by
  have h1 := encn_len h
  have h2 := enc_len (n := vss.length) (by omega)
  unfold encl
  rw [List.length_append]; omega
end Go.Proofs.YtdiaogcogkapgaaGreatDoor
namespace Go.Proofs.YtdiaogcogkapgaaGreatDoor
open Go.RowKit
attribute [local irreducible] Fn WC WL WR OW Qt YieldFn QW FnP FnD FnE
def Elems (R : List (Nat × Obj)) (a : Option Addr) (n : Nat) (vss : List (List Value)) : Prop :=
  vss = [] ∨ ∃ (be eo ie : Nat) (ec : Array Value) (EE : TypeId) (ef : Nat × Nat), a = some ⟨be, eo, none⟩ ∧ R[ie]? = some (be, .cells ec EE ef) ∧ ∀ j vs, vss[j]? = some vs → Lies ec (eo + j * n) vs ∧ Free ef (eo + j * n) n
abbrev putV (pb : Nat) : Value := .iface 177 (.pointer (some ⟨pb, 0, none⟩))
section
variable {pb : Nat} {T0 : List (Nat × Obj)} {n0 : Nat}
set_option maxHeartbeats 4000000 in
theorem plist_int {bs : List UInt8} {Lp R : List (Nat × Obj)} {i b : Nat} {cs : Array Value} {E : TypeId} {fr : Nat × Nat} {off : Nat} {a : Option Addr} {cap : Nat} {vss : List (List Value)} {most : Int} (hM : PMem pb T0 n0 bs Lp) (hT : ∀ q ∈ T0, q ∈ R) (hn : vss.length ≤ 1000000) (hroom : bs.length + 10 + 10 * vss.length ≤ 1000000000) (hR : R[i]? = some (b, .cells cs E fr)) (hc : cs[off]? = some (.slice a vss.length cap)) (he : Elems R a 1 vss) (ho : ∀ vs ∈ vss, Oks binF vs) :
    Fn Tryz.prog 120 [putV pb, .pointer (some ⟨b, off, none⟩), .int .i64 most, .func (.func 94) #[] #[]] (Lp ++ R) (fun v L' => v = .tuple #[] ∧ ∃ Lp', L' = Lp' ++ R ∧ PMem pb T0 n0 (bs ++ encl binF vss) Lp') := by
  have ih := (putM pb T0 n0).ih
  have jn := (putM pb T0 n0).jn
  have im := (putM pb T0 n0).im
  have hX := get_app (A := Lp) hR
  have hw : IntKind.u64.wrap ((vss.length : Nat) : Int) = ((vss.length : Nat) : Int) := wU64 (by omega) (by omega)
  refine Fn_enter Tryz.func120 rfl Tryz.ntmps120 rfl fun g => ?_
  repeat (first | refine RQ ?_ | (refine WL_Q ?_; (first | refine QW_of (Qt_nilCheck_m rfl) ?_)) | (refine RE ?_; try intro _) | refine RC ?_ | refine WC_region ?_)
  refine WL_op rfl ?_
  refine OW_invE (putM pb T0 n0).mh rfl (put_here bs Lp R hM) ?_ (fun _ _ h => h.elim)
  rintro _ _ ⟨rfl, Lp1, rfl, hM1⟩
  have hX1 := get_app (A := Lp1) hR
  repeat (first | refine RQ ?_ | (refine WL_Q ?_; (first | refine QW_of (Qt_nilCheck_m rfl) ?_)) | (refine RE ?_; try intro _) | refine RC ?_ | refine WG 0 ?_ | refine WG 1 ?_ | refine WG 3 ?_ | refine WG 4 ?_ | refine WG 5 ?_ | refine WG 6 ?_ | refine WG 7 ?_ | refine WG 8 ?_ | refine WG 9 ?_ | refine WG 10 ?_ | refine WG 11 ?_)
  rw [hw]
  repeat (first | refine RQ ?_ | (refine WL_Q ?_; (first | refine QW_of (Qt_nilCheck_m rfl) ?_)) | (refine RE ?_; try intro _) | refine RC ?_ | refine WC_region ?_)
  rename_i mb
  refine WL_op rfl ?_
  refine OW_locI (c := ⟨Tryz.prog, g, _, _, _⟩) (W := putW pb T0 n0) (k := .nn) (s := bs) (putM pb T0 n0).mn (putM pb T0 n0).cn hM1 hT (show bs.length + 10 * 1 ≤ 1000000000 by omega) ⟨_, rfl, by omega, by omega⟩ rfl ?_ (fun c a p s' Lp' h => by cases h)
  intro s' x' Lp2 hs hM2
  cases hs
  repeat (first | refine RQ ?_ | (refine WL_Q ?_; (first | refine QW_of (Qt_nilCheck_m rfl) ?_)) | (refine RE ?_; try intro _) | refine RC ?_ | refine WC_region ?_)
  refine WL_op rfl ?_
  refine OW_invE (putM pb T0 n0).mm rfl (put_must (_ :: Lp2) R _ 4) ?_ (fun _ _ h => h.elim)
  rintro _ _ ⟨rfl, rfl⟩
  rw [List.cons_append]
  repeat (first | refine RQ ?_ | (refine WL_Q ?_; (first | refine QW_of (Qt_nilCheck_m rfl) ?_)) | (refine RE ?_; try intro _) | refine RC0 ?_ | refine WC_block (id := 1) ?_ | refine WC_region ?_)
  have hM2 : PMem pb T0 n0 (bs ++ enc vss.length) Lp2 := by
    have e : bs ++ Fk.enc .nn (.int .u64 (vss.length : Nat)) = bs ++ enc vss.length := by show bs ++ enc ((vss.length : Nat) : Int).toNat = _; rw [Int.toNat_natCast]
    rw [← e]; exact hM2
  refine WC_block (WC_wk [(27, .int .u64 0), (26, .int .u64 (vss.length : Nat)), (0, putV pb), (1, .pointer (some ⟨b, off, none⟩)), (3, .func (.func 94) #[] #[])] ⟨rfl, rfl, rfl, rfl, rfl, trivial⟩ ?_)
  refine WC_dropL (Lp2 ++ R) (.cons _ (.refl _)) ?_
  have hel := enc_len (n := vss.length) (by omega)
  refine WC_loop (fun m σ => ∃ j Lpj, m = vss.length - j ∧ j ≤ vss.length ∧ PMem pb T0 n0 (bs ++ enc vss.length ++ (vss.take j).flatMap (encs binF)) Lpj ∧ σ = ⟨[(27, .int .u64 (j : Nat)), (26, .int .u64 (vss.length : Nat)), (0, putV pb), (1, .pointer (some ⟨b, off, none⟩)), (3, .func (.func 94) #[] #[])], [], Lpj ++ R⟩) vss.length ⟨0, Lp2, by omega, by omega, by simpa using hM2, rfl⟩ ?_
  rintro m σ ⟨j, Lpj, rfl, hj, hMj, rfl⟩
  by_cases hlt : j < vss.length
  · have d1 : decide (((j : Nat) : Int) < ((vss.length : Nat) : Int)) = true := decide_eq_true (by omega)
    have d2 : (((j : Nat) : Int) == IntKind.u64.wrap ((vss.length : Nat) : Int)) = false := by rw [hw]; simp; omega
    have hXj := get_app (A := Lpj) hR
    obtain ⟨vs, hvs⟩ : ∃ vs, vss[j]? = some vs := ⟨_, List.getElem?_eq_getElem hlt⟩
    rcases he with he | ⟨be, eo, ie, ec, EE, ef, rfl, hRe, hat⟩
    · rw [he] at hlt; simp at hlt
    obtain ⟨hl, hf⟩ := hat j vs hvs
    have hov := ho vs (List.mem_of_getElem? hvs)
    have i1 : ((j : Nat) : Int) < ((vss.length : Nat) : Int) := by omega
    have hrm : (bs ++ enc vss.length ++ (vss.take j).flatMap (encs binF)).length + 10 * binF.length ≤ 1000000000 := by
      have h1 := encn_len (es := binF) (vss := vss.take j) fun vs hv => ho vs (List.mem_of_mem_take hv)
      have h2 : (vss.take j).length = j := by rw [List.length_take]; omega
      rw [h2, show binF.length = 1 from rfl] at h1
      rw [List.length_append, List.length_append, show binF.length = 1 from rfl]
      omega
    have hwj : IntKind.u64.wrap (((j : Nat) : Int) + 1) = ((j + 1 : Nat) : Int) := by rw [wU64 (by omega) (by omega)]; omega
    repeat (first | refine RQ ?_ | (refine WL_Q ?_; (first | refine QW_of (Qt_nilCheck_m rfl) ?_)) | (refine RE ?_; try intro _) | refine RC ?_ | refine WC_region ?_)
    refine WL_op rfl ?_
    refine OW_callE rfl (FnE.ofFn (Rp := fun _ _ => False) (putF (small_flat (putM pb T0 n0)) hMj hT hrm hRe hov hl hf)) ?_ (fun _ _ h => h.elim)
    rintro _ _ ⟨rfl, Lp', rfl, hM'⟩
    repeat (first | refine RQ ?_ | (refine WL_Q ?_; (first | refine QW_of (Qt_nilCheck_m rfl) ?_)) | (refine RE ?_; try intro _) | refine RC ?_ | refine WC_region ?_)
    rw [hwj]
    refine ⟨_, _, by omega, ⟨j + 1, Lp', rfl, by omega, ?_, rfl⟩, ⟨rfl, rfl, rfl, rfl, rfl, trivial⟩, rfl, .refl _⟩
    rw [List.take_add_one, hvs, List.flatMap_append, ← List.append_assoc]
    simpa using hM'
  · have d1 : decide (((j : Nat) : Int) < ((vss.length : Nat) : Int)) = false := decide_eq_false (by omega)
    obtain rfl : j = vss.length := by omega
    rw [List.take_length, List.append_assoc] at hMj
    repeat (first | refine RQ ?_ | (refine WL_Q ?_; (first | refine QW_of (Qt_nilCheck_m rfl) ?_)) | (refine RE ?_; try intro _) | refine RC ?_ | refine WC_region ?_)
    exact ⟨rfl, _, _, Res0 rfl, .refl _, rfl, Lpj, rfl, hMj⟩
set_option maxHeartbeats 4000000 in
theorem plist_entry {bs : List UInt8} {Lp R : List (Nat × Obj)} {i b : Nat} {cs : Array Value} {E : TypeId} {fr : Nat × Nat} {off : Nat} {a : Option Addr} {cap : Nat} {vss : List (List Value)} {most : Int} (hM : PMem pb T0 n0 bs Lp) (hT : ∀ q ∈ T0, q ∈ R) (hn : vss.length ≤ 1000000) (hroom : bs.length + 10 + 100 * vss.length ≤ 1000000000) (hR : R[i]? = some (b, .cells cs E fr)) (hc : cs[off]? = some (.slice a vss.length cap)) (he : Elems R a 10 vss) (ho : ∀ vs ∈ vss, Oks entryF vs) :
    Fn Tryz.prog 122 [putV pb, .pointer (some ⟨b, off, none⟩), .int .i64 most, .func (.func 123) #[] #[]] (Lp ++ R) (fun v L' => v = .tuple #[] ∧ ∃ Lp', L' = Lp' ++ R ∧ PMem pb T0 n0 (bs ++ encl entryF vss) Lp') := by
  have ih := (putM pb T0 n0).ih
  have jn := (putM pb T0 n0).jn
  have im := (putM pb T0 n0).im
  have hX := get_app (A := Lp) hR
  have hw : IntKind.u64.wrap ((vss.length : Nat) : Int) = ((vss.length : Nat) : Int) := wU64 (by omega) (by omega)
  refine Fn_enter Tryz.func122 rfl Tryz.ntmps122 rfl fun g => ?_
  repeat (first | refine RQr ?_ | (refine RX ?_; (first | refine QW_of (Qt_nilCheck_m rfl) ?_)) | (refine OX ?_; (first | (refine OE ?_; try intro _)); try refine SD ?_) | refine RC ?_ | refine RU ?_ | refine WC_draw_all (id := 9) 8 (Cs [0,1,2,3,4] <| .must 5 <| .must 6 <| .calm 7 <| .must 8 <| .done) mixed (by kernel_rfl) ?_ | refine WC_region ?_)
  refine WL_op rfl ?_
  refine OW_invE (putM pb T0 n0).mh rfl (put_here bs Lp R hM) ?_ (fun _ _ h => h.elim)
  rintro _ _ ⟨rfl, Lp1, rfl, hM1⟩
  have hX1 := get_app (A := Lp1) hR
  repeat (first | refine RQr ?_ | (refine RX ?_; (first | refine QW_of (Qt_nilCheck_m rfl) ?_)) | (refine OX ?_; (first | (refine OE ?_; try intro _)); try refine SD ?_) | refine RC ?_ | refine RU ?_ | refine WC_draw_all (id := 9) 8 (Cs [0,1,2,3,4] <| .must 5 <| .must 6 <| .calm 7 <| .must 8 <| .done) mixed (by kernel_rfl) ?_ | refine WG 0 ?_ | refine WG 1 ?_ | refine WG 3 ?_ | refine WG 4 ?_ | refine WG 5 ?_ | refine WG 6 ?_ | refine WG 7 ?_ | refine WG 8 ?_ | refine WG 10 ?_ | refine WG 11 ?_)
  rw [hw]
  repeat (first | refine RQr ?_ | (refine RX ?_; (first | refine QW_of (Qt_nilCheck_m rfl) ?_)) | (refine OX ?_; (first | (refine OE ?_; try intro _)); try refine SD ?_) | refine RC ?_ | refine RU ?_ | refine WC_draw_all (id := 9) 8 (Cs [0,1,2,3,4] <| .must 5 <| .must 6 <| .calm 7 <| .must 8 <| .done) mixed (by kernel_rfl) ?_ | refine WC_region ?_)
  rename_i mb
  refine WL_op rfl ?_
  refine OW_locI (c := ⟨Tryz.prog, g, _, _, _⟩) (W := putW pb T0 n0) (k := .nn) (s := bs) (putM pb T0 n0).mn (putM pb T0 n0).cn hM1 hT (show bs.length + 10 * 1 ≤ 1000000000 by omega) ⟨_, rfl, by omega, by omega⟩ rfl ?_ (fun c a p s' Lp' h => by cases h)
  intro s' x' Lp2 hs hM2
  cases hs
  repeat (first | refine RQr ?_ | (refine RX ?_; (first | refine QW_of (Qt_nilCheck_m rfl) ?_)) | (refine OX ?_; (first | (refine OE ?_; try intro _)); try refine SD ?_) | refine RC ?_ | refine RU ?_ | refine WC_draw_all (id := 9) 8 (Cs [0,1,2,3,4] <| .must 5 <| .must 6 <| .calm 7 <| .must 8 <| .done) mixed (by kernel_rfl) ?_ | refine WC_region ?_)
  refine WL_op rfl ?_
  refine OW_invE (putM pb T0 n0).mm rfl (put_must (_ :: Lp2) R _ 4) ?_ (fun _ _ h => h.elim)
  rintro _ _ ⟨rfl, rfl⟩
  rw [List.cons_append]
  repeat (first | refine RQr ?_ | (refine RX ?_; (first | refine QW_of (Qt_nilCheck_m rfl) ?_)) | (refine OX ?_; (first | (refine OE ?_; try intro _)); try refine SD ?_) | refine RC0 ?_ | refine RU ?_ | refine WC_block (id := 1) ?_ | refine WC_draw_all (id := 9) 8 (Cs [0,1,2,3,4] <| .must 5 <| .must 6 <| .calm 7 <| .must 8 <| .done) mixed (by kernel_rfl) ?_ | refine WC_region ?_)
  have hM2 : PMem pb T0 n0 (bs ++ enc vss.length) Lp2 := by
    have e : bs ++ Fk.enc .nn (.int .u64 (vss.length : Nat)) = bs ++ enc vss.length := by show bs ++ enc ((vss.length : Nat) : Int).toNat = _; rw [Int.toNat_natCast]
    rw [← e]; exact hM2
  refine WC_block (WC_wk [(27, .int .u64 0), (26, .int .u64 (vss.length : Nat)), (0, putV pb), (1, .pointer (some ⟨b, off, none⟩)), (3, .func (.func 123) #[] #[])] ⟨rfl, rfl, rfl, rfl, rfl, trivial⟩ ?_)
  refine WC_dropL (Lp2 ++ R) (.cons _ (.refl _)) ?_
  have hel := enc_len (n := vss.length) (by omega)
  refine WC_loop (fun m σ => ∃ j Lpj, m = vss.length - j ∧ j ≤ vss.length ∧ PMem pb T0 n0 (bs ++ enc vss.length ++ (vss.take j).flatMap (encs entryF)) Lpj ∧ σ = ⟨[(27, .int .u64 (j : Nat)), (26, .int .u64 (vss.length : Nat)), (0, putV pb), (1, .pointer (some ⟨b, off, none⟩)), (3, .func (.func 123) #[] #[])], [], Lpj ++ R⟩) vss.length ⟨0, Lp2, by omega, by omega, by simpa using hM2, rfl⟩ ?_
  rintro m σ ⟨j, Lpj, rfl, hj, hMj, rfl⟩
  by_cases hlt : j < vss.length
  · have d1 : decide (((j : Nat) : Int) < ((vss.length : Nat) : Int)) = true := decide_eq_true (by omega)
    have d2 : (((j : Nat) : Int) == IntKind.u64.wrap ((vss.length : Nat) : Int)) = false := by rw [hw]; simp; omega
    have hXj := get_app (A := Lpj) hR
    obtain ⟨vs, hvs⟩ : ∃ vs, vss[j]? = some vs := ⟨_, List.getElem?_eq_getElem hlt⟩
    rcases he with he | ⟨be, eo, ie, ec, EE, ef, rfl, hRe, hat⟩
    · rw [he] at hlt; simp at hlt
    obtain ⟨hl, hf⟩ := hat j vs hvs
    have hov := ho vs (List.mem_of_getElem? hvs)
    have i1 : ((j : Nat) : Int) < ((vss.length : Nat) : Int) := by omega
    have hrm : (bs ++ enc vss.length ++ (vss.take j).flatMap (encs entryF)).length + 10 * entryF.length ≤ 1000000000 := by
      have h1 := encn_len (es := entryF) (vss := vss.take j) fun vs hv => ho vs (List.mem_of_mem_take hv)
      have h2 : (vss.take j).length = j := by rw [List.length_take]; omega
      rw [h2, show entryF.length = 10 from rfl] at h1
      rw [List.length_append, List.length_append, show entryF.length = 10 from rfl]
      omega
    have hwj : IntKind.u64.wrap (((j : Nat) : Int) + 1) = ((j + 1 : Nat) : Int) := by rw [wU64 (by omega) (by omega)]; omega
    repeat (first | refine RQr ?_ | (refine RX ?_; (first | refine QW_of (Qt_nilCheck_m rfl) ?_)) | (refine OX ?_; (first | (refine OE ?_; try intro _)); try refine SD ?_) | refine RC ?_ | refine RU ?_ | refine WC_draw_all (id := 9) 8 (Cs [0,1,2,3,4] <| .must 5 <| .must 6 <| .calm 7 <| .must 8 <| .done) mixed (by kernel_rfl) ?_ | refine WC_region ?_)
    refine WL_op rfl ?_
    refine OW_callE rfl (FnE.ofFn (Rp := fun _ _ => False) (putF (entry_flat (putM pb T0 n0)) hMj hT hrm hRe hov hl hf)) ?_ (fun _ _ h => h.elim)
    rintro _ _ ⟨rfl, Lp', rfl, hM'⟩
    repeat (first | refine RQr ?_ | (refine RX ?_; (first | refine QW_of (Qt_nilCheck_m rfl) ?_)) | (refine OX ?_; (first | (refine OE ?_; try intro _)); try refine SD ?_) | refine RC ?_ | refine RU ?_ | refine WC_draw_all (id := 9) 8 (Cs [0,1,2,3,4] <| .must 5 <| .must 6 <| .calm 7 <| .must 8 <| .done) mixed (by kernel_rfl) ?_ | refine WC_region ?_)
    rw [hwj]
    refine ⟨_, _, by omega, ⟨j + 1, Lp', rfl, by omega, ?_, rfl⟩, ⟨rfl, rfl, rfl, rfl, rfl, trivial⟩, rfl, .refl _⟩
    rw [List.take_add_one, hvs, List.flatMap_append, ← List.append_assoc]
    simpa using hM'
  · have d1 : decide (((j : Nat) : Int) < ((vss.length : Nat) : Int)) = false := decide_eq_false (by omega)
    obtain rfl : j = vss.length := by omega
    rw [List.take_length, List.append_assoc] at hMj
    repeat (first | refine RQr ?_ | (refine RX ?_; (first | refine QW_of (Qt_nilCheck_m rfl) ?_)) | (refine OX ?_; (first | (refine OE ?_; try intro _)); try refine SD ?_) | refine RC ?_ | refine RU ?_ | refine WC_draw_all (id := 9) 8 (Cs [0,1,2,3,4] <| .must 5 <| .must 6 <| .calm 7 <| .must 8 <| .done) mixed (by kernel_rfl) ?_ | refine WC_region ?_)
    exact ⟨rfl, _, _, Res0 rfl, .refl _, rfl, Lpj, rfl, hMj⟩
end
end Go.Proofs.YtdiaogcogkapgaaGreatDoor
namespace Go.Proofs.YtdiaogcogkapgaaGreatDoor
open Go.RowKit
attribute [local irreducible] Fn WC WL WR OW Qt YieldFn QW FnP FnD FnE
theorem ok1 {k : Fk} {v : Value} (h : k.ok v) : Oks [k] [v] := ⟨h, trivial⟩
section
variable {pb : Nat} {T0 : List (Nat × Obj)} {n0 : Nat}
set_option maxHeartbeats 4000000 in
theorem pcmd {bs : List UInt8} {Lp R : List (Nat × Obj)} {i b : Nat} {cs : Array Value} {E : TypeId} {fr : Nat × Nat} {off : Nat} {a : Option Addr} {cap : Nat} {ch ct : List Value} {bins : List (List Value)} (hM : PMem pb T0 n0 bs Lp) (hT : ∀ q ∈ T0, q ∈ R) (hn : bins.length ≤ 1000000) (hroom : bs.length + 100 + 10 * bins.length ≤ 1000000000) (hR : R[i]? = some (b, .cells cs E fr)) (hch : Oks chF ch) (hct : Oks ctF ct) (hb : ∀ vs ∈ bins, Oks binF vs)
    (hl : Lies cs off (ch ++ (.slice a bins.length cap :: ct))) (he : Elems R a 1 bins) (hfr : Free fr off 10) :
    Fn Tryz.prog 96 [putV pb, .pointer (some ⟨b, off, none⟩)] (Lp ++ R) (fun v L' => v = .tuple #[] ∧ ∃ Lp', L' = Lp' ++ R ∧ PMem pb T0 n0 (bs ++ encCmd ch bins ct) Lp') := by
  obtain ⟨c0, us, rfl, h0, hch'⟩ := hch.split
  obtain ⟨c1, us, rfl, h1, hch''⟩ := hch'.split
  obtain rfl := hch''.nil
  obtain ⟨t0, us, rfl, k0, q⟩ := hct.split
  obtain ⟨t1, us, rfl, k1, q⟩ := q.split
  obtain ⟨t2, us, rfl, k2, q⟩ := q.split
  obtain ⟨t3, us, rfl, k3, q⟩ := q.split
  obtain ⟨t4, us, rfl, k4, q⟩ := q.split
  obtain ⟨t5, us, rfl, k5, q⟩ := q.split
  obtain ⟨t6, us, rfl, k6, q⟩ := q.split
  obtain rfl := q.nil
  have ih := (putM pb T0 n0).ih
  have jn := (putM pb T0 n0).jn
  have im := (putM pb T0 n0).im
  have iw := (putM pb T0 n0).iw
  have it := (putM pb T0 n0).it
  have qw : methX Tryz.prog 177 "anabranch/codec.whole" = some 174 := (putM pb T0 n0).mw
  have qt : methX Tryz.prog 177 "anabranch/codec.truth" = some 173 := (putM pb T0 n0).mt
  have qm : methX Tryz.prog 177 "anabranch/codec.must" = some 170 := (putM pb T0 n0).mm
  have e0 := enc_len_ok h0
  have e1 := enc_len_ok h1
  have e2 := encl_len hb hn
  have e3 := enc_len_ok k0
  have e4 := enc_len_ok k1
  have hop : Oks opF [t2, t3, t4, t5] := ⟨k2, k3, k4, k5, trivial⟩
  have e5 := encs_len hop
  have s1 : ∀ v : Value, encs [.ww] [v] = Fk.enc .ww v := fun v => by simp [encs]
  have e5' : (encs opF [t2, t3, t4, t5]).length ≤ 40 := e5
  have e2' : (encl binF bins).length ≤ 10 + 10 * bins.length := by simpa using e2
  refine Fn_enter Tryz.func96 rfl Tryz.ntmps96 rfl fun g => ?_
  repeat (first | refine RQ ?_ | (refine WL_Q ?_; (first | refine QW_of (Qt_nilCheck_m rfl) ?_)) | refine RC ?_ | refine WG 0 ?_)
  refine WL_op rfl ?_
  refine OW_callE rfl (FnE.ofFn (Rp := fun _ _ => False) (putF (fs := [.ww]) (small_flat (putM pb T0 n0)) hM hT (show bs.length + 10 * 1 ≤ 1000000000 by omega) hR (ok1 h0) (hl.cut 0 1) (hfr.sub 0 1 (by decide)))) ?_ (fun _ _ h => h.elim)
  rintro _ _ ⟨rfl, Lp0, rfl, hM0⟩
  repeat (first | refine RQ ?_ | (refine WL_Q ?_; (first | refine QW_of (Qt_nilCheck_m rfl) ?_)) | refine RC ?_ | refine WG 0 ?_)
  repeat (first | refine RQ ?_ | (refine WL_Q ?_; (first | refine QW_of (Qt_nilCheck_m rfl) ?_)) | refine RC ?_ | refine WG 0 ?_)
  refine WC_draw_sub (id := 1) 8 (Cs [0,1,2,3,4,5,6] <| .must 7 <| .done) mixed (by kernel_rfl) (List.nil_sublist _) ?_
  repeat (first | refine RQr ?_ | (refine RX ?_; (first | refine QW_of (Qt_nilCheck_m rfl) ?_)) | refine RC ?_ | refine RU ?_ | refine WC_draw_all (id := 1) 8 (Cs [0,1,2,3,4,5,6] <| .must 7 <| .done) mixed (by kernel_rfl) ?_ | refine WG 0 ?_)
  refine WR_op rfl rfl ?_
  refine OW_invE (putM pb T0 n0).mw rfl (FnE.ofFn (Rp := fun _ _ => False) (putF (fs := [.ww]) put_whole hM0 hT (show (bs ++ encs [.ww] [c0]).length + 10 * 1 ≤ 1000000000 by simp only [List.length_append, s1]; omega) hR (ok1 h1) (hl.cut 1 1) (hfr.sub 1 1 (by decide)))) ?_ (fun _ _ h => h.elim)
  rintro _ _ ⟨rfl, Lp1, rfl, hM1⟩
  refine ⟨(fun q hq => (by cases hq)), ?_⟩
  repeat (first | refine RQr ?_ | (refine RX ?_; (first | refine QW_of (Qt_nilCheck_m rfl) ?_)) | refine RC ?_ | refine RU ?_ | refine WC_draw_all (id := 1) 8 (Cs [0,1,2,3,4,5,6] <| .must 7 <| .done) mixed (by kernel_rfl) ?_ | refine WC_regB 3 ?_)
  refine WL_op rfl ?_
  refine OW_callE rfl (FnE.ofFn (Rp := fun _ _ => False) (plist_int (most := 8) hM1 hT hn (show (bs ++ encs [.ww] [c0] ++ encs [.ww] [c1]).length + 10 + 10 * bins.length ≤ 1000000000 by simp only [List.length_append, s1]; omega) hR ((hl.cut 2 1) 0 _ rfl) he hb)) ?_ (fun _ _ h => h.elim)
  rintro _ _ ⟨rfl, Lp2, rfl, hM2⟩
  repeat (first | refine RQ ?_ | (refine WL_Q ?_; (first | refine QW_of (Qt_nilCheck_m rfl) ?_)) | refine RC ?_ | refine WG 2 ?_ | refine WG 3 ?_)
  refine WL_op rfl ?_
  refine OW_callE rfl (FnE.ofFn (Rp := fun _ _ => False) (putF (fs := [.ww]) (small_flat (putM pb T0 n0)) hM2 hT (show (bs ++ encs [.ww] [c0] ++ encs [.ww] [c1] ++ encl binF bins).length + 10 * 1 ≤ 1000000000 by simp only [List.length_append, s1]; omega) hR (ok1 k0) (hl.cut 3 1) (hfr.sub 3 1 (by decide)))) ?_ (fun _ _ h => h.elim)
  rintro _ _ ⟨rfl, Lp3, rfl, hM3⟩
  repeat (first | refine RQ ?_ | (refine WL_Q ?_; (first | refine QW_of (Qt_nilCheck_m rfl) ?_)) | refine RC ?_ | refine WG 2 ?_ | refine WG 3 ?_ | refine WG 4 ?_)
  refine WL_op rfl ?_
  refine OW_callE rfl (FnE.ofFn (Rp := fun _ _ => False) (putF (fs := [.ww]) (small_flat (putM pb T0 n0)) hM3 hT (show (bs ++ encs [.ww] [c0] ++ encs [.ww] [c1] ++ encl binF bins ++ encs [.ww] [t0]).length + 10 * 1 ≤ 1000000000 by simp only [List.length_append, s1]; omega) hR (ok1 k1) (hl.cut 4 1) (hfr.sub 4 1 (by decide)))) ?_ (fun _ _ h => h.elim)
  rintro _ _ ⟨rfl, Lp4, rfl, hM4⟩
  repeat (first | refine RQ ?_ | (refine WL_Q ?_; (first | refine QW_of (Qt_nilCheck_m rfl) ?_)) | refine RC ?_ | refine WG 2 ?_ | refine WG 3 ?_ | refine WG 4 ?_ | refine WG 5 ?_)
  refine WL_op rfl ?_
  refine OW_callE rfl (FnE.ofFn (Rp := fun _ _ => False) (putF (fs := opF) (op_flat (putM pb T0 n0)) hM4 hT (show (bs ++ encs [.ww] [c0] ++ encs [.ww] [c1] ++ encl binF bins ++ encs [.ww] [t0] ++ encs [.ww] [t1]).length + 10 * 4 ≤ 1000000000 by simp only [List.length_append, s1]; omega) hR hop (hl.cut 5 4) (hfr.sub 5 4 (by decide)))) ?_ (fun _ _ h => h.elim)
  rintro _ _ ⟨rfl, Lp5, rfl, hM5⟩
  repeat (first | refine RQ ?_ | (refine WL_Q ?_; (first | refine QW_of (Qt_nilCheck_m rfl) ?_)) | refine RC ?_ | refine WG 2 ?_ | refine WG 3 ?_ | refine WG 4 ?_ | refine WG 5 ?_ | refine WG 6 ?_)
  refine WL_op rfl ?_
  refine OW_callE rfl (FnE.ofFn (Rp := fun _ _ => False) (putF (fs := [.ww]) (small_flat (putM pb T0 n0)) hM5 hT (show (bs ++ encs [.ww] [c0] ++ encs [.ww] [c1] ++ encl binF bins ++ encs [.ww] [t0] ++ encs [.ww] [t1] ++ encs opF [t2, t3, t4, t5]).length + 10 * 1 ≤ 1000000000 by simp only [List.length_append, s1]; omega) hR (ok1 k6) (hl.cut 9 1) (hfr.sub 9 1 (by decide)))) ?_ (fun _ _ h => h.elim)
  rintro _ _ ⟨rfl, Lp6, rfl, hM6⟩
  repeat (first | refine RQ ?_ | (refine WL_Q ?_; (first | refine QW_of (Qt_nilCheck_m rfl) ?_)) | refine RC ?_ | refine WG 2 ?_ | refine WG 3 ?_ | refine WG 4 ?_ | refine WG 5 ?_ | refine WG 6 ?_)
  refine ⟨rfl, _, _, Res0 rfl, .refl _, rfl, Lp6, rfl, ?_⟩
  have e : bs ++ encCmd [c0, c1] bins [t0, t1, t2, t3, t4, t5, t6] = (bs ++ encs [.ww] [c0] ++ encs [.ww] [c1] ++ encl binF bins ++ encs [.ww] [t0] ++ encs [.ww] [t1] ++ encs opF [t2, t3, t4, t5]) ++ encs [.ww] [t6] := by simp [encCmd, encs]
  rw [e]; exact hM6
set_option maxHeartbeats 4000000 in
theorem pchunk {bs : List UInt8} {Lp R : List (Nat × Obj)} {i b : Nat} {cs : Array Value} {E : TypeId} {fr : Nat × Nat} {off : Nat} {a : Option Addr} {cap : Nat} {kh : List Value} {ents : List (List Value)} (hM : PMem pb T0 n0 bs Lp) (hT : ∀ q ∈ T0, q ∈ R) (hn : ents.length ≤ 1000000) (hroom : bs.length + 100 + 100 * ents.length ≤ 1000000000) (hR : R[i]? = some (b, .cells cs E fr)) (hkh : Oks khF kh) (hb : ∀ vs ∈ ents, Oks entryF vs)
    (hl : Lies cs off (kh ++ [.slice a ents.length cap])) (he : Elems R a 10 ents) (hfr : Free fr off 4) :
    Fn Tryz.prog 97 [putV pb, .pointer (some ⟨b, off, none⟩)] (Lp ++ R) (fun v L' => v = .tuple #[] ∧ ∃ Lp', L' = Lp' ++ R ∧ PMem pb T0 n0 (bs ++ encChunk kh ents) Lp') := by
  obtain ⟨c0, us, rfl, h0, q⟩ := hkh.split
  obtain ⟨c1, us, rfl, h1, q⟩ := q.split
  obtain ⟨c2, us, rfl, h2, q⟩ := q.split
  obtain rfl := q.nil
  have ih := (putM pb T0 n0).ih
  have jn := (putM pb T0 n0).jn
  have im := (putM pb T0 n0).im
  have iw := (putM pb T0 n0).iw
  have it := (putM pb T0 n0).it
  have qw : methX Tryz.prog 177 "anabranch/codec.whole" = some 174 := (putM pb T0 n0).mw
  have qt : methX Tryz.prog 177 "anabranch/codec.truth" = some 173 := (putM pb T0 n0).mt
  have qm : methX Tryz.prog 177 "anabranch/codec.must" = some 170 := (putM pb T0 n0).mm
  have e0 := enc_len_ok h0
  have e1 := enc_len_ok h1
  have e2 := enc_len_ok h2
  have s1 : ∀ (k : Fk) (v : Value), encs [k] [v] = k.enc v := fun k v => by simp [encs]
  refine Fn_enter Tryz.func97 rfl Tryz.ntmps97 rfl fun g => ?_
  repeat (first | refine RQ ?_ | (refine WL_Q ?_; (first | refine QW_of (Qt_nilCheck_m rfl) ?_)) | refine RC ?_ | refine WG 0 ?_)
  refine WL_op rfl ?_
  refine OW_callE rfl (FnE.ofFn (Rp := fun _ _ => False) (putF (fs := [.ww]) (small_flat (putM pb T0 n0)) hM hT (show bs.length + 10 * 1 ≤ 1000000000 by omega) hR (ok1 h0) (hl.cut 0 1) (hfr.sub 0 1 (by decide)))) ?_ (fun _ _ h => h.elim)
  rintro _ _ ⟨rfl, Lp0, rfl, hM0⟩
  repeat (first | refine RQ ?_ | (refine WL_Q ?_; (first | refine QW_of (Qt_nilCheck_m rfl) ?_)) | refine RC ?_ | refine WC_regB 2 ?_)
  refine WL_op rfl ?_
  refine OW_callE rfl (FnE.ofFn (Rp := fun _ _ => False) (putF (fs := [.ww]) (small_flat (putM pb T0 n0)) hM0 hT (show (bs ++ encs [.ww] [c0]).length + 10 * 1 ≤ 1000000000 by simp only [List.length_append, s1]; omega) hR (ok1 h1) (hl.cut 1 1) (hfr.sub 1 1 (by decide)))) ?_ (fun _ _ h => h.elim)
  rintro _ _ ⟨rfl, Lp1, rfl, hM1⟩
  repeat (first | refine RQ ?_ | (refine WL_Q ?_; (first | refine QW_of (Qt_nilCheck_m rfl) ?_)) | refine RC ?_ | refine WC_regB 2 ?_)
  repeat (first | refine RQ ?_ | (refine WL_Q ?_; (first | refine QW_of (Qt_nilCheck_m rfl) ?_)) | refine RC ?_ | refine WC_regB 2 ?_)
  refine WC_draw_sub (id := 2) 8 (Cs [0,1,2,3,4,5,6] <| .must 7 <| .done) mixed (by kernel_rfl) (List.nil_sublist _) ?_
  repeat (first | refine RQr ?_ | (refine RX ?_; (first | refine QW_of (Qt_nilCheck_m rfl) ?_)) | refine RC ?_ | refine RU ?_ | refine WC_draw_all (id := 2) 8 (Cs [0,1,2,3,4,5,6] <| .must 7 <| .done) mixed (by kernel_rfl) ?_ | refine WC_regB 3 ?_)
  refine WR_op rfl rfl ?_
  refine OW_invE (putM pb T0 n0).mt rfl (FnE.ofFn (Rp := fun _ _ => False) (putF (fs := [.tt]) put_truth hM1 hT (show (bs ++ encs [.ww] [c0] ++ encs [.ww] [c1]).length + 10 * 1 ≤ 1000000000 by simp only [List.length_append, s1]; omega) hR (ok1 h2) (hl.cut 2 1) (hfr.sub 2 1 (by decide)))) ?_ (fun _ _ h => h.elim)
  rintro _ _ ⟨rfl, Lp2, rfl, hM2⟩
  refine ⟨(fun q hq => (by cases hq)), ?_⟩
  repeat (first | refine RQr ?_ | (refine RX ?_; (first | refine QW_of (Qt_nilCheck_m rfl) ?_)) | refine RC ?_ | refine RU ?_ | refine WC_draw_all (id := 2) 8 (Cs [0,1,2,3,4,5,6] <| .must 7 <| .done) mixed (by kernel_rfl) ?_ | refine WC_region ?_)
  refine WL_op rfl ?_
  refine OW_callE rfl (FnE.ofFn (Rp := fun _ _ => False) (plist_entry (most := 64) hM2 hT hn (show (bs ++ encs [.ww] [c0] ++ encs [.ww] [c1] ++ encs [.tt] [c2]).length + 10 + 100 * ents.length ≤ 1000000000 by simp only [List.length_append, s1]; omega) hR ((hl.cut 3 1) 0 _ rfl) he hb)) ?_ (fun _ _ h => h.elim)
  rintro _ _ ⟨rfl, Lp3, rfl, hM3⟩
  repeat (first | refine RQ ?_ | (refine WL_Q ?_; (first | refine QW_of (Qt_nilCheck_m rfl) ?_)) | refine RC ?_ | refine WG 0 ?_ | refine WG 1 ?_ | refine WG 3 ?_)
  refine ⟨rfl, _, _, Res0 rfl, .refl _, rfl, Lp3, rfl, ?_⟩
  have e : bs ++ encChunk [c0, c1, c2] ents = (bs ++ encs [.ww] [c0] ++ encs [.ww] [c1] ++ encs [.tt] [c2]) ++ encl entryF ents := by simp [encChunk, encs]
  rw [e]; exact hM3
def MV.cells (m : MV) (a : Option Addr) (cap : Nat) (a' : Option Addr) (cap' : Nat) : List Value :=
  [.int .i64 m.kind, .int .i64 m.ver] ++ (m.rc ++ ([.int .i64 m.time, .int .i64 m.num] ++ ((m.ch ++ (.slice a m.bins.length cap :: m.ct)) ++ (m.kh ++ [.slice a' m.ents.length cap']))))
theorem MV.cells_at {m : MV} (h : m.Ok) {cs : Array Value} {off : Nat} {a : Option Addr} {cap : Nat} {a' : Option Addr} {cap' : Nat} (hl : Lies cs off (m.cells a cap a' cap')) :
    cs[off + 0]? = some (.int .i64 m.kind) ∧ cs[off + 1]? = some (.int .i64 m.ver) ∧ Lies cs (off + 2) m.rc ∧ cs[off + 8]? = some (.int .i64 m.time) ∧ cs[off + 9]? = some (.int .i64 m.num) ∧ Lies cs (off + 10) (m.ch ++ (.slice a m.bins.length cap :: m.ct)) ∧ Lies cs (off + 20) (m.kh ++ [.slice a' m.ents.length cap']) := by
  have l1 := h.rc.len
  have l2 := h.ch.len
  have l3 := h.ct.len
  simp only [List.length_cons, List.length_nil] at l1 l2 l3
  obtain ⟨h1, q⟩ := Lies.app hl
  obtain ⟨h2, q⟩ := Lies.app q
  obtain ⟨h3, q⟩ := Lies.app q
  obtain ⟨h4, h5⟩ := Lies.app q
  simp only [List.length_append, List.length_cons, List.length_nil, l1, l2, l3, Nat.add_assoc] at h2 h3 h4 h5
  exact ⟨h1 0 _ rfl, h1 1 _ rfl, h2, h3 0 _ rfl, h3 1 _ rfl, h4, h5⟩
theorem one_lies {cs : Array Value} {off : Nat} {v : Value} (h : cs[off]? = some v) : Lies cs off [v] := fun j u hj => by
  cases j with
  | zero => simp at hj; subst hj; exact h
  | succ j => simp at hj
set_option maxHeartbeats 8000000 in
theorem pmsg {bs : List UInt8} {Lp R : List (Nat × Obj)} {i b : Nat} {cs : Array Value} {E : TypeId} {fr : Nat × Nat} {off : Nat} {a : Option Addr} {cap : Nat} {a' : Option Addr} {cap' : Nat} {m : MV} (hM : PMem pb T0 n0 bs Lp) (hT : ∀ q ∈ T0, q ∈ R) (hm : m.Ok) (hn : m.bins.length ≤ 1000000) (hn' : m.ents.length ≤ 1000000) (hroom : bs.length + 1000 + 10 * m.bins.length + 100 * m.ents.length ≤ 1000000000) (hR : R[i]? = some (b, .cells cs E fr))
    (hl : Lies cs off (m.cells a cap a' cap')) (he : Elems R a 1 m.bins) (he' : Elems R a' 10 m.ents) (hfr : Free fr off 24) :
    Fn Tryz.prog 74 [putV pb, .pointer (some ⟨b, off, none⟩)] (Lp ++ R) (fun v L' => v = .tuple #[] ∧ ∃ Lp', L' = Lp' ++ R ∧ PMem pb T0 n0 (bs ++ m.enc) Lp') := by
  obtain ⟨g0, g1, g2, g3, g4, g5, g6⟩ := MV.cells_at hm hl
  have ih := (putM pb T0 n0).ih
  have jn := (putM pb T0 n0).jn
  have im := (putM pb T0 n0).im
  have iw := (putM pb T0 n0).iw
  have it := (putM pb T0 n0).it
  have qw : methX Tryz.prog 177 "anabranch/codec.whole" = some 174 := (putM pb T0 n0).mw
  have qt : methX Tryz.prog 177 "anabranch/codec.truth" = some 173 := (putM pb T0 n0).mt
  have qm : methX Tryz.prog 177 "anabranch/codec.must" = some 170 := (putM pb T0 n0).mm
  have e0 := enc_len (zz_lt hm.kind.1 hm.kind.2)
  have e1 := enc_len (zz_lt hm.ver.1 hm.ver.2)
  have o0 : Fk.ok .ww (.int .i64 m.kind) := ⟨_, rfl, hm.kind.1, hm.kind.2⟩
  have o1 : Fk.ok .ww (.int .i64 m.ver) := ⟨_, rfl, hm.ver.1, hm.ver.2⟩
  have o2 : Fk.ok .ww (.int .i64 m.time) := ⟨_, rfl, hm.time.1, hm.time.2⟩
  have o3 : Fk.ok .ww (.int .i64 m.num) := ⟨_, rfl, hm.num.1, hm.num.2⟩
  have s1 : ∀ x : Int, encs [.ww] [.int .i64 x] = enc (zz x) := fun x => by simp [encs, Fk.enc]
  have e2 := encs_len hm.rc
  refine Fn_enter Tryz.func74 rfl Tryz.ntmps74 rfl fun g => ?_
  repeat (first | refine RQ ?_ | (refine WL_Q ?_; (first | refine QW_of (Qt_nilCheck_m rfl) ?_)) | refine RC ?_ | refine WG 0 ?_)
  refine WL_op rfl ?_
  refine OW_invE (putM pb T0 n0).mh rfl (put_here bs Lp R hM) ?_ (fun _ _ h => h.elim)
  rintro _ _ ⟨rfl, Lp0, rfl, hM0⟩
  repeat (first | refine RQ ?_ | (refine WL_Q ?_; (first | refine QW_of (Qt_nilCheck_m rfl) ?_)) | refine RC ?_ | refine WC_regB 2 ?_)
  refine WL_op rfl ?_
  refine OW_callE rfl (FnE.ofFn (Rp := fun _ _ => False) (putF (fs := [.ww]) (small_flat (putM pb T0 n0)) hM0 hT (show bs.length + 10 * 1 ≤ 1000000000 by omega) hR (ok1 o0) (one_lies g0) (hfr.sub 0 1 (by decide)))) ?_ (fun _ _ h => h.elim)
  rintro _ _ ⟨rfl, Lp1, rfl, hM1⟩
  rw [s1] at hM1
  have hX := get_app (A := Lp1) hR
  repeat (first | refine RQ ?_ | ((first | refine WL_Q ?_ | refine WL_Y ?_); (first | refine QW_of (Qt_nilCheck_m rfl) ?_)) | refine RC ?_ | refine WG 1 ?_)
  refine WC_meet (fun σ => σ = ⟨[(0, putV pb), (1, .pointer (some ⟨b, off, none⟩))], [], Lp1 ++ R⟩) ?_ ?_
  · by_cases hk : 0 ≤ m.kind
    · have d1 : decide (m.kind ≥ 0) = true := decide_eq_true hk
      repeat (first | refine RQr ?_ | ((first | refine WL_Q ?_ | refine WL_Y ?_ | refine WR_Q rfl ?_ | refine WR_late rfl rfl rfl (OW_Q ?_) | refine WR_Y rfl ?_); (first | refine QW_of (Qt_nilCheck_m rfl) ?_)) | refine RC ?_ | refine RU ?_ | refine WC_draw_all (id := 2) 17 (Cs [0,1,2,3,4,5,6,7,8,9,10,11,12,13,14,15] <| .must 16 <| .done) mixed (by kernel_rfl) ?_)
      refine WR_op rfl rfl ?_
      refine OW_invE (putM pb T0 n0).mm rfl (put_must Lp1 R _ 6) ?_ (fun _ _ h => h.elim)
      rintro _ _ ⟨rfl, rfl⟩
      refine ⟨fun _ h => h, ?_⟩
      repeat (first | refine RQr ?_ | ((first | refine WL_Q ?_ | refine WL_Y ?_ | refine WR_Q rfl ?_ | refine WR_late rfl rfl rfl (OW_Q ?_) | refine WR_Y rfl ?_); (first | refine QW_of (Qt_nilCheck_m rfl) ?_)) | refine RC ?_ | refine RU ?_ | refine WC_draw_all (id := 2) 17 (Cs [0,1,2,3,4,5,6,7,8,9,10,11,12,13,14,15] <| .must 16 <| .done) mixed (by kernel_rfl) ?_)
      exact ⟨_, rfl, ⟨rfl, rfl, trivial⟩, rfl, .refl _⟩
    · have d1 : decide (m.kind ≥ 0) = false := decide_eq_false hk
      repeat (first | refine RQr ?_ | ((first | refine WL_Q ?_ | refine WL_Y ?_ | refine WR_Q rfl ?_ | refine WR_late rfl rfl rfl (OW_Q ?_) | refine WR_Y rfl ?_); (first | refine QW_of (Qt_nilCheck_m rfl) ?_)) | refine RC ?_ | refine RU ?_ | refine WC_draw_all (id := 2) 17 (Cs [0,1,2,3,4,5,6,7,8,9,10,11,12,13,14,15] <| .must 16 <| .done) mixed (by kernel_rfl) ?_)
      refine WR_op rfl rfl ?_
      refine OW_invE (putM pb T0 n0).mm rfl (put_must Lp1 R _ 6) ?_ (fun _ _ h => h.elim)
      rintro _ _ ⟨rfl, rfl⟩
      refine ⟨fun _ h => h, ?_⟩
      repeat (first | refine RQr ?_ | ((first | refine WL_Q ?_ | refine WL_Y ?_ | refine WR_Q rfl ?_ | refine WR_late rfl rfl rfl (OW_Q ?_) | refine WR_Y rfl ?_); (first | refine QW_of (Qt_nilCheck_m rfl) ?_)) | refine RC ?_ | refine RU ?_ | refine WC_draw_all (id := 2) 17 (Cs [0,1,2,3,4,5,6,7,8,9,10,11,12,13,14,15] <| .must 16 <| .done) mixed (by kernel_rfl) ?_)
      exact ⟨_, rfl, ⟨rfl, rfl, trivial⟩, rfl, .refl _⟩
  rintro _ rfl
  repeat (first | refine RQ ?_ | ((first | refine WL_Q ?_ | refine WL_Y ?_); (first | refine QW_of (Qt_nilCheck_m rfl) ?_)) | refine RC ?_ | refine WG 3 ?_)
  refine WL_op rfl ?_
  refine OW_callE rfl (FnE.ofFn (Rp := fun _ _ => False) (putF (fs := [.ww]) (small_flat (putM pb T0 n0)) hM1 hT (show (bs ++ enc (zz m.kind)).length + 10 * 1 ≤ 1000000000 by rw [List.length_append]; omega) hR (ok1 o1) (one_lies g1) (hfr.sub 1 1 (by decide)))) ?_ (fun _ _ h => h.elim)
  rintro _ _ ⟨rfl, Lp2, rfl, hM2⟩
  rw [s1] at hM2
  have hl2 : (bs ++ enc (zz m.kind) ++ enc (zz m.ver)).length ≤ bs.length + 20 := by rw [List.length_append, List.length_append]; omega
  have fin : ∀ {x : List UInt8} {Lp' : List (Nat × Obj)}, m.body = x → PMem pb T0 n0 (bs ++ enc (zz m.kind) ++ enc (zz m.ver) ++ x) Lp' → PMem pb T0 n0 (bs ++ m.enc) Lp' := fun {x Lp'} h1 h2 => by
    have e : bs ++ m.enc = bs ++ enc (zz m.kind) ++ enc (zz m.ver) ++ x := by rw [← h1]; unfold MV.enc; simp
    rw [e]; exact h2
  have hX2 := get_app (A := Lp2) hR
  by_cases hk : m.kind = 0
  · have hk0 := hk
    have d0 : (m.kind == 0) = true := by simpa using hk
    repeat (first | refine RQr ?_ | ((first | refine WL_Q ?_ | refine WL_Y ?_ | refine WR_Q rfl ?_ | refine WR_late rfl rfl rfl (OW_Q ?_) | refine WR_Y rfl ?_); (first | refine QW_of (Qt_nilCheck_m rfl) ?_)) | refine RC ?_ | refine RU ?_ | refine WC_draw_all (id := 8) 8 (Cs [0,1,2,3,4,5,6] <| .must 7 <| .done) mixed (by kernel_rfl) ?_ | refine WG 4 ?_ | refine WG 5 ?_ | refine WG 6 ?_ | refine WG 7 ?_ | refine WG 9 ?_ | refine WG 10 ?_ | refine WG 11 ?_ | refine WG 12 ?_ | refine WG 13 ?_ | refine WG 14 ?_)
    refine WL_op rfl ?_
    refine OW_callE rfl (FnE.ofFn (Rp := fun _ _ => False) (putF (fs := recF) (rec_flat (putM pb T0 n0)) hM2 hT (show (bs ++ enc (zz m.kind) ++ enc (zz m.ver)).length + 10 * 6 ≤ 1000000000 by omega) hR (hm.rc) g2 (hfr.sub 2 6 (by decide)))) ?_ (fun _ _ h => h.elim)
    rintro _ _ ⟨rfl, Lp3, rfl, hM3⟩
    repeat (first | refine RQr ?_ | ((first | refine WL_Q ?_ | refine WL_Y ?_ | refine WR_Q rfl ?_ | refine WR_late rfl rfl rfl (OW_Q ?_) | refine WR_Y rfl ?_); (first | refine QW_of (Qt_nilCheck_m rfl) ?_)) | refine RC ?_ | refine RU ?_ | refine WC_draw_all (id := 8) 8 (Cs [0,1,2,3,4,5,6] <| .must 7 <| .done) mixed (by kernel_rfl) ?_ | refine WG 0 ?_ | refine WG 5 ?_ | refine WG 6 ?_ | refine WG 7 ?_ | refine WG 9 ?_ | refine WG 10 ?_ | refine WG 11 ?_ | refine WG 12 ?_ | refine WG 13 ?_ | refine WG 14 ?_)
    exact ⟨rfl, _, _, Res0 rfl, .refl _, rfl, Lp3, rfl, fin (by unfold MV.body; rw [if_pos hk]) hM3⟩
  by_cases hk : m.kind = 1
  · have hk1 := hk
    have d0 : (m.kind == 0) = false := by simpa using (show ¬ m.kind = 0 by omega)
    have d1 : (m.kind == 1) = true := by simpa using hk
    repeat (first | refine RQ ?_ | ((first | refine WL_Q ?_ | refine WL_Y ?_); (first | refine QW_of (Qt_nilCheck_m rfl) ?_)) | refine RC ?_ | refine WG 4 ?_ | refine WG 5 ?_ | refine WG 6 ?_ | refine WG 7 ?_ | refine WG 9 ?_ | refine WG 10 ?_ | refine WG 11 ?_ | refine WG 12 ?_ | refine WG 13 ?_ | refine WG 14 ?_)
    refine WC_draw_sub (id := 8) 8 (Cs [0,1,2,3,4,5,6] <| .must 7 <| .done) mixed (by kernel_rfl) (List.nil_sublist _) ?_
    repeat (first | refine RQr ?_ | ((first | refine WL_Q ?_ | refine WL_Y ?_ | refine WR_Q rfl ?_ | refine WR_late rfl rfl rfl (OW_Q ?_) | refine WR_Y rfl ?_); (first | refine QW_of (Qt_nilCheck_m rfl) ?_)) | refine RC ?_ | refine RU ?_ | refine WC_draw_all (id := 8) 8 (Cs [0,1,2,3,4,5,6] <| .must 7 <| .done) mixed (by kernel_rfl) ?_ | refine WG 4 ?_ | refine WG 5 ?_ | refine WG 6 ?_ | refine WG 7 ?_ | refine WG 9 ?_ | refine WG 10 ?_ | refine WG 11 ?_ | refine WG 12 ?_ | refine WG 13 ?_ | refine WG 14 ?_)
    refine WR_op rfl rfl ?_
    refine OW_invE (putM pb T0 n0).mw rfl (FnE.ofFn (Rp := fun _ _ => False) (putF (fs := [.ww]) put_whole hM2 hT (show (bs ++ enc (zz m.kind) ++ enc (zz m.ver)).length + 10 * 1 ≤ 1000000000 by omega) hR (ok1 o2) (one_lies g3) (hfr.sub 8 1 (by decide)))) ?_ (fun _ _ h => h.elim)
    rintro _ _ ⟨rfl, Lp3, rfl, hM3⟩
    refine ⟨(fun q hq => (by cases hq)), ?_⟩
    repeat (first | refine RQr ?_ | ((first | refine WL_Q ?_ | refine WL_Y ?_ | refine WR_Q rfl ?_ | refine WR_late rfl rfl rfl (OW_Q ?_) | refine WR_Y rfl ?_); (first | refine QW_of (Qt_nilCheck_m rfl) ?_)) | refine RC ?_ | refine RU ?_ | refine WC_draw_all (id := 8) 8 (Cs [0,1,2,3,4,5,6] <| .must 7 <| .done) mixed (by kernel_rfl) ?_ | refine WG 0 ?_ | refine WG 5 ?_ | refine WG 6 ?_ | refine WG 7 ?_ | refine WG 9 ?_ | refine WG 10 ?_ | refine WG 11 ?_ | refine WG 12 ?_ | refine WG 13 ?_ | refine WG 14 ?_)
    exact ⟨rfl, _, _, Res0 rfl, .refl _, rfl, Lp3, rfl, fin (by unfold MV.body; rw [if_neg (by omega), if_pos hk]; exact (s1 _).symm) hM3⟩
  by_cases hk : m.kind = 2
  · have hk2 := hk
    have d0 : (m.kind == 0) = false := by simpa using (show ¬ m.kind = 0 by omega)
    have d1 : (m.kind == 1) = false := by simpa using (show ¬ m.kind = 1 by omega)
    have d2 : (m.kind == 2) = true := by simpa using hk
    repeat (first | refine RQr ?_ | ((first | refine WL_Q ?_ | refine WL_Y ?_ | refine WR_Q rfl ?_ | refine WR_late rfl rfl rfl (OW_Q ?_) | refine WR_Y rfl ?_); (first | refine QW_of (Qt_nilCheck_m rfl) ?_)) | refine RC ?_ | refine RU ?_ | refine WC_draw_all (id := 8) 8 (Cs [0,1,2,3,4,5,6] <| .must 7 <| .done) mixed (by kernel_rfl) ?_ | refine WG 4 ?_ | refine WG 5 ?_ | refine WG 6 ?_ | refine WG 7 ?_ | refine WG 9 ?_ | refine WG 10 ?_ | refine WG 11 ?_ | refine WG 12 ?_ | refine WG 13 ?_ | refine WG 14 ?_)
    refine WL_op rfl ?_
    refine OW_callE rfl (FnE.ofFn (Rp := fun _ _ => False) (putF (fs := [.ww]) (small_flat (putM pb T0 n0)) hM2 hT (show (bs ++ enc (zz m.kind) ++ enc (zz m.ver)).length + 10 * 1 ≤ 1000000000 by omega) hR ((ok1 o3)) (one_lies g4) (hfr.sub 9 1 (by decide)))) ?_ (fun _ _ h => h.elim)
    rintro _ _ ⟨rfl, Lp3, rfl, hM3⟩
    repeat (first | refine RQr ?_ | ((first | refine WL_Q ?_ | refine WL_Y ?_ | refine WR_Q rfl ?_ | refine WR_late rfl rfl rfl (OW_Q ?_) | refine WR_Y rfl ?_); (first | refine QW_of (Qt_nilCheck_m rfl) ?_)) | refine RC ?_ | refine RU ?_ | refine WC_draw_all (id := 8) 8 (Cs [0,1,2,3,4,5,6] <| .must 7 <| .done) mixed (by kernel_rfl) ?_ | refine WG 0 ?_ | refine WG 5 ?_ | refine WG 6 ?_ | refine WG 7 ?_ | refine WG 9 ?_ | refine WG 10 ?_ | refine WG 11 ?_ | refine WG 12 ?_ | refine WG 13 ?_ | refine WG 14 ?_)
    exact ⟨rfl, _, _, Res0 rfl, .refl _, rfl, Lp3, rfl, fin (by unfold MV.body; rw [if_neg (by omega), if_neg (by omega), if_pos hk]; exact (s1 _).symm) hM3⟩
  by_cases hk : m.kind = 3
  · have hk3 := hk
    have d0 : (m.kind == 0) = false := by simpa using (show ¬ m.kind = 0 by omega)
    have d1 : (m.kind == 1) = false := by simpa using (show ¬ m.kind = 1 by omega)
    have d2 : (m.kind == 2) = false := by simpa using (show ¬ m.kind = 2 by omega)
    have d3 : (m.kind == 3) = true := by simpa using hk
    repeat (first | refine RQr ?_ | ((first | refine WL_Q ?_ | refine WL_Y ?_ | refine WR_Q rfl ?_ | refine WR_late rfl rfl rfl (OW_Q ?_) | refine WR_Y rfl ?_); (first | refine QW_of (Qt_nilCheck_m rfl) ?_)) | refine RC ?_ | refine RU ?_ | refine WC_draw_all (id := 8) 8 (Cs [0,1,2,3,4,5,6] <| .must 7 <| .done) mixed (by kernel_rfl) ?_ | refine WG 4 ?_ | refine WG 5 ?_ | refine WG 6 ?_ | refine WG 7 ?_ | refine WG 9 ?_ | refine WG 10 ?_ | refine WG 11 ?_ | refine WG 12 ?_ | refine WG 13 ?_ | refine WG 14 ?_)
    refine WL_op rfl ?_
    refine OW_callE rfl (FnE.ofFn (Rp := fun _ _ => False) (pcmd hM2 hT hn (by omega) hR hm.ch hm.ct hm.bins g5 he (hfr.sub 10 10 (by decide)))) ?_ (fun _ _ h => h.elim)
    rintro _ _ ⟨rfl, Lp3, rfl, hM3⟩
    repeat (first | refine RQr ?_ | ((first | refine WL_Q ?_ | refine WL_Y ?_ | refine WR_Q rfl ?_ | refine WR_late rfl rfl rfl (OW_Q ?_) | refine WR_Y rfl ?_); (first | refine QW_of (Qt_nilCheck_m rfl) ?_)) | refine RC ?_ | refine RU ?_ | refine WC_draw_all (id := 8) 8 (Cs [0,1,2,3,4,5,6] <| .must 7 <| .done) mixed (by kernel_rfl) ?_ | refine WG 0 ?_ | refine WG 5 ?_ | refine WG 6 ?_ | refine WG 7 ?_ | refine WG 9 ?_ | refine WG 10 ?_ | refine WG 11 ?_ | refine WG 12 ?_ | refine WG 13 ?_ | refine WG 14 ?_)
    exact ⟨rfl, _, _, Res0 rfl, .refl _, rfl, Lp3, rfl, fin (by unfold MV.body; rw [if_neg (by omega), if_neg (by omega), if_neg (by omega), if_pos hk]) hM3⟩
  by_cases hk : m.kind = 4
  · have hk4 := hk
    have d0 : (m.kind == 0) = false := by simpa using (show ¬ m.kind = 0 by omega)
    have d1 : (m.kind == 1) = false := by simpa using (show ¬ m.kind = 1 by omega)
    have d2 : (m.kind == 2) = false := by simpa using (show ¬ m.kind = 2 by omega)
    have d3 : (m.kind == 3) = false := by simpa using (show ¬ m.kind = 3 by omega)
    have d4 : (m.kind == 4) = true := by simpa using hk
    repeat (first | refine RQr ?_ | ((first | refine WL_Q ?_ | refine WL_Y ?_ | refine WR_Q rfl ?_ | refine WR_late rfl rfl rfl (OW_Q ?_) | refine WR_Y rfl ?_); (first | refine QW_of (Qt_nilCheck_m rfl) ?_)) | refine RC ?_ | refine RU ?_ | refine WC_draw_all (id := 8) 8 (Cs [0,1,2,3,4,5,6] <| .must 7 <| .done) mixed (by kernel_rfl) ?_ | refine WG 4 ?_ | refine WG 5 ?_ | refine WG 6 ?_ | refine WG 7 ?_ | refine WG 9 ?_ | refine WG 10 ?_ | refine WG 11 ?_ | refine WG 12 ?_ | refine WG 13 ?_ | refine WG 14 ?_)
    refine WL_op rfl ?_
    refine OW_callE rfl (FnE.ofFn (Rp := fun _ _ => False) (pchunk hM2 hT hn' (by omega) hR hm.kh hm.ents g6 he' (hfr.sub 20 4 (by decide)))) ?_ (fun _ _ h => h.elim)
    rintro _ _ ⟨rfl, Lp3, rfl, hM3⟩
    repeat (first | refine RQr ?_ | ((first | refine WL_Q ?_ | refine WL_Y ?_ | refine WR_Q rfl ?_ | refine WR_late rfl rfl rfl (OW_Q ?_) | refine WR_Y rfl ?_); (first | refine QW_of (Qt_nilCheck_m rfl) ?_)) | refine RC ?_ | refine RU ?_ | refine WC_draw_all (id := 8) 8 (Cs [0,1,2,3,4,5,6] <| .must 7 <| .done) mixed (by kernel_rfl) ?_ | refine WG 0 ?_ | refine WG 5 ?_ | refine WG 6 ?_ | refine WG 7 ?_ | refine WG 9 ?_ | refine WG 10 ?_ | refine WG 11 ?_ | refine WG 12 ?_ | refine WG 13 ?_ | refine WG 14 ?_)
    exact ⟨rfl, _, _, Res0 rfl, .refl _, rfl, Lp3, rfl, fin (by unfold MV.body; rw [if_neg (by omega), if_neg (by omega), if_neg (by omega), if_neg (by omega), if_pos hk]) hM3⟩
  have d0 : (m.kind == 0) = false := by simpa using (show ¬ m.kind = 0 by omega)
  have d1 : (m.kind == 1) = false := by simpa using (show ¬ m.kind = 1 by omega)
  have d2 : (m.kind == 2) = false := by simpa using (show ¬ m.kind = 2 by omega)
  have d3 : (m.kind == 3) = false := by simpa using (show ¬ m.kind = 3 by omega)
  have d4 : (m.kind == 4) = false := by simpa using (show ¬ m.kind = 4 by omega)
  repeat (first | refine RQr ?_ | ((first | refine WL_Q ?_ | refine WL_Y ?_ | refine WR_Q rfl ?_ | refine WR_late rfl rfl rfl (OW_Q ?_) | refine WR_Y rfl ?_); (first | refine QW_of (Qt_nilCheck_m rfl) ?_)) | refine RC ?_ | refine RU ?_ | refine WC_draw_all (id := 8) 8 (Cs [0,1,2,3,4,5,6] <| .must 7 <| .done) mixed (by kernel_rfl) ?_ | refine WG 4 ?_ | refine WG 5 ?_ | refine WG 6 ?_ | refine WG 7 ?_ | refine WG 9 ?_ | refine WG 10 ?_ | refine WG 11 ?_ | refine WG 12 ?_ | refine WG 13 ?_ | refine WG 14 ?_)
  exact ⟨rfl, _, _, Res0 rfl, .refl _, rfl, Lp2, rfl, fin (x := []) (by unfold MV.body; rw [if_neg (by omega), if_neg (by omega), if_neg (by omega), if_neg (by omega), if_neg (by omega)]) (by rw [List.append_nil]; exact hM2)⟩
end
end Go.Proofs.YtdiaogcogkapgaaGreatDoor
namespace Go.Proofs.YtdiaogcogkapgaaGreatDoor
open Go.RowKit
attribute [local irreducible] Fn WC WL WR OW Qt YieldFn QW FnP FnD FnE
theorem by_T0 {L : List (Nat × Obj)} {v : Value} {bs : List UInt8} (h : ByAt L v bs) : ∃ a cap T0, v = .slice a bs.length cap ∧ bs.length ≤ cap ∧ cap ≤ maxLen ∧ (∀ q ∈ T0, q ∈ L) ∧ ByAt T0 (.slice a bs.length bs.length) bs := by
  obtain ⟨h1, a, cap, rfl, h3, h4, h5⟩ := h
  rcases h5 with h5 | ⟨b, off, cs, E, fr, i, e1, e2, e3⟩
  · refine ⟨a, cap, [], rfl, h3, h4, (fun q hq => (by cases hq)), h1, a, bs.length, rfl, Nat.le_refl _, by omega, .inl h5⟩
  · exact ⟨a, cap, [(b, .cells cs E fr)], rfl, h3, h4, fun q hq => by rw [List.mem_singleton.1 hq]; exact List.mem_of_getElem? e2, h1, a, bs.length, rfl, Nat.le_refl _, by omega, .inr ⟨b, off, cs, E, fr, 0, e1, rfl, e3⟩⟩
theorem Elems.mem {R R' : List (Nat × Obj)} {a : Option Addr} {n : Nat} {vss : List (List Value)} (h : Elems R a n vss) (hs : ∀ q ∈ R, q ∈ R') : Elems R' a n vss := by
  rcases h with h | ⟨be, eo, ie, ec, EE, ef, h1, h2, h3⟩
  · exact .inl h
  · obtain ⟨j, hj⟩ := List.mem_iff_getElem?.1 (hs _ (List.mem_of_getElem? h2))
    exact .inr ⟨be, eo, j, ec, EE, ef, h1, hj, h3⟩
theorem MV.enc_pos (m : MV) : 0 < m.enc.length := by
  have := Go.Proofs.YtdiaogcogkapgaaGreatDoor.enc_pos (zz m.kind)
  unfold MV.enc; rw [List.length_append]; omega
set_option maxHeartbeats 2000000 in
theorem laid_Msg {v : Value} {bs l : List UInt8} {cs : Array Value} {L : List (Nat × Obj)} {fu : FuncId} [FCall Tryz.prog fu] (hb : ByAt L v bs) (hlen : 0 < l.length)
    (hf : ∀ (pb : Nat) (T0 : List (Nat × Obj)) (xb : Nat) (Lp : List (Nat × Obj)), PMem pb T0 bs.length bs Lp → (∀ q ∈ T0, q ∈ ((xb, Obj.cells cs 43 (0, 0)) :: L)) → Fn Tryz.prog fu [putV pb, .pointer (some ⟨xb, 0, none⟩)] (Lp ++ ((xb, Obj.cells cs 43 (0, 0)) :: L)) (fun v L' => v = .tuple #[] ∧ ∃ Lp', L' = Lp' ++ ((xb, Obj.cells cs 43 (0, 0)) :: L) ∧ PMem pb T0 bs.length (bs ++ l) Lp')) :
    Fn Tryz.prog 73 [v, .agg cs, .func (.func fu) #[] #[]] L (fun r L' => LaidAt r L L' (bs ++ l)) := by
  obtain ⟨a, cap, T0, rfl, hc1, hc2, hT, hb0⟩ := by_T0 hb
  refine Fn_enter Tryz.func73 rfl Tryz.ntmps73 rfl fun g => ?_
  repeat (first | refine RQ ?_ | (refine RE ?_; try intro _) | refine RC ?_ | refine WC_region ?_)
  rename_i xb pb
  refine WL_op rfl ?_
  refine OW_callE rfl (FnE.ofFn (Rp := fun _ _ => False) (hf pb T0 xb [(pb, Obj.cells #[.slice a bs.length bs.length] 179 (0, 0))] ⟨_, [], rfl, hb0, .inl ⟨rfl, rfl, a, rfl⟩⟩ (fun q hq => List.mem_cons_of_mem _ (hT q hq)))) ?_ (fun _ _ h => h.elim)
  rintro _ _ ⟨rfl, _, rfl, v', T, rfl, _, hc⟩
  rcases hc with ⟨_, hc, _⟩ | ⟨g', off, cap', cur, rfl, rfl, hown⟩
  · rw [List.length_append] at hc; omega
  repeat (first | refine RQ ?_ | (refine RE ?_; try intro _) | refine RC ?_ | refine WC_region ?_)
  exact ⟨rfl, _, (g', .cells cur 5 (0, 0)) :: L, Res1 rfl (resV_tmp rfl), .cons_cons _ (.cons _ (.cons _ (.refl _))), g', off, cap', cur, rfl, rfl, hown⟩
set_option maxHeartbeats 1000000 in
theorem PMsg_fn {v : Value} {bs : List UInt8} {cs : Array Value} {L : List (Nat × Obj)} {a : Option Addr} {cap : Nat} {a' : Option Addr} {cap' : Nat} {m : MV} (hb : ByAt L v bs) (hz : cs.size = 24) (hm : m.Ok) (hn : m.bins.length ≤ 1000000) (hn' : m.ents.length ≤ 100000) (hl : Lies cs 0 (m.cells a cap a' cap')) (he : Elems L a 1 m.bins) (he' : Elems L a' 10 m.ents) (hroom : bs.length ≤ 900000000) :
    Fn Tryz.prog 55 [v, .agg cs] L (fun r L' => LaidAt r L L' (bs ++ m.enc)) := by
  refine Fn_enter Tryz.func55 rfl Tryz.ntmps55 rfl fun g => ?_
  repeat (first | refine RQ ?_ | (refine RE ?_; try intro _) | refine RC ?_ | refine WC_region ?_)
  rename_i xb
  refine WL_op rfl ?_
  refine OW_callE rfl (FnE.ofFn (Rp := fun _ _ => False) (laid_Msg (l := m.enc) (hb.cons _) (m.enc_pos) fun pb T0 xb2 Lp hM hT => pmsg (i := 0) hM hT hm hn (by omega) (by omega) rfl hl (he.mem fun q hq => List.mem_cons_of_mem _ (List.mem_cons_of_mem _ hq)) (he'.mem fun q hq => List.mem_cons_of_mem _ (List.mem_cons_of_mem _ hq)) (Free.zero _ _))) ?_ (fun _ _ h => h.elim)
  rintro _ _ ⟨g', off, cap', cur, rfl, rfl, hown⟩
  repeat (first | refine RQ ?_ | (refine RE ?_; try intro _) | refine RC ?_ | refine WC_region ?_)
  exact ⟨rfl, _, (g', .cells cur 5 (0, 0)) :: L, Res1 rfl (resV_tmp rfl), .cons_cons _ (.cons _ (.refl _)), g', off, cap', cur, rfl, rfl, hown⟩
end Go.Proofs.YtdiaogcogkapgaaGreatDoor
namespace Go.Proofs.YtdiaogcogkapgaaGreatDoor
open Go.RowKit
attribute [local irreducible] Fn WC WL WR OW Qt YieldFn QW FnP FnD FnE
theorem lies_extract {cs : Array Value} {a n : Nat} {vs : List Value} (h : Lies cs a vs) (hn : vs.length ≤ n) : Lies (cs.extract a (a + n)) 0 vs := fun j v hj => by
  have hlt := (List.getElem?_eq_some_iff.1 hj).1
  have := h j v hj
  have hc := (Array.getElem?_eq_some_iff.1 this).1
  rw [Nat.zero_add, Array.getElem?_extract, if_pos (by omega)]
  exact this
theorem size_extract {cs : Array Value} {a n : Nat} (h : a + n ≤ cs.size) : (cs.extract a (a + n)).size = n := by simp; omega
theorem lies0 {cs : Array Value} {vs : List Value} (h : Lies cs 0 vs) {j : Nat} {v : Value} (hj : vs[j]? = some v) : cs[j]? = some v := by
  have := h j v hj
  rwa [Nat.zero_add] at this
theorem rW_fn {x : Int} {L : List (Nat × Obj)} (h0 : -9223372036854775808 ≤ x) (h1 : x < 9223372036854775808) : Fn Tryz.prog 98 [.int .i64 x] L (fun r L' => r = .string (bstr (enc (zz x))) ∧ L' = L) := by
  refine Fn_enter Tryz.func98 rfl Tryz.ntmps98 rfl fun g => ?_
  repeat (first | refine RQ ?_ | (refine WL_op rfl ?_; (first | refine OW_callP rfl (hF := Int_fn (by with_reducible assumption) (by with_reducible assumption)) (hk := ?_))) | refine RC ?_ | refine WC_region ?_)
  exact ⟨rfl, _, _, Res1 rfl (resV_tmp rfl), .refl _, rfl, rfl⟩
set_option maxHeartbeats 4000000 in
theorem rRec_fn {cs : Array Value} {vs : List Value} {L : List (Nat × Obj)} (hv : Oks recF vs) (hl : Lies cs 0 vs) : Fn Tryz.prog 99 [.agg cs] L (fun r L' => r = .string (bstr (encs recF vs)) ∧ L' = L) := by
  obtain ⟨x0, us, rfl, xh0, hv⟩ := hv.split
  obtain ⟨x1, us, rfl, xh1, hv⟩ := hv.split
  obtain ⟨x2, us, rfl, xh2, hv⟩ := hv.split
  obtain ⟨x3, us, rfl, xh3, hv⟩ := hv.split
  obtain ⟨x4, us, rfl, xh4, hv⟩ := hv.split
  obtain ⟨x5, us, rfl, xh5, hv⟩ := hv.split
  obtain rfl := hv.nil
  have ex0 := enc_len_ok xh0
  obtain ⟨x0, rfl, x0lo, x0hi⟩ := xh0
  have x0w : IntKind.u64.wrap x0 = x0 := wU64 x0lo (by omega)
  have x0wl := u64_lo x0
  have x0wh := u64_hi x0
  have fx0 : (enc (IntKind.u64.wrap x0).toNat).length ≤ 10 := by rw [x0w]; exact ex0
  have ex1 := enc_len_ok xh1
  obtain ⟨x1, rfl, x1lo, x1hi⟩ := xh1
  have fx1 : (enc (zz x1)).length ≤ 10 := ex1
  have ex2 := enc_len_ok xh2
  obtain ⟨x2, rfl, x2lo, x2hi⟩ := xh2
  have fx2 : (enc (zz x2)).length ≤ 10 := ex2
  have ex3 := enc_len_ok xh3
  obtain ⟨x3, rfl⟩ := xh3
  have ex4 := enc_len_ok xh4
  obtain ⟨x4, rfl⟩ := xh4
  have fx4 : (encB x4).length ≤ 10 := ex4
  have ex5 := enc_len_ok xh5
  obtain ⟨x5, rfl⟩ := xh5
  have fx5 : (encB x5).length ≤ 10 := ex5
  have c0 := lies0 hl (j := 0) rfl
  have c1 := lies0 hl (j := 1) rfl
  have c2 := lies0 hl (j := 2) rfl
  have c3 := lies0 hl (j := 3) rfl
  have c4 := lies0 hl (j := 4) rfl
  have c5 := lies0 hl (j := 5) rfl
  refine Fn_enter Tryz.func99 rfl Tryz.ntmps99 rfl fun g => ?_
  repeat' (first | refine RQr ?_ | (refine OX ?_; (first | (refine OE ?_; try intro _) | refine OW_callP rfl (hF := Int_fn (by with_reducible assumption) (by with_reducible assumption)) (hk := ?_) | refine OW_callP rfl (hF := Num_fn' (by with_reducible assumption) (by with_reducible assumption)) (hk := ?_) | refine OW_callP rfl (hF := Truth_fn) (hk := ?_)); try refine SD ?_) | refine RC ?_ | refine RU ?_ | refine WC_draw_all (id := 1) 26 (Cs [0,1,2,4,5,8,9,12,13,17,18,21,22] <| .either 3 (.either 6 (.calm 7 <| .either 10 (.calm 11 <| .either 14 (Cs [15,16] <| .must 19 <| .calm 20 <| .must 23 <| Cs [24,25] <| .done) 19 (.either 14 (Cs [15,16,20] <| .must 23 <| Cs [24,25] <| .done) 23 (.must 14 <| Cs [15,16,20,24,25] <| .done))) 14 (.calm 15 <| .must 10 <| Cs [11,16] <| .must 19 <| .calm 20 <| .must 23 <| Cs [24,25] <| .done)) 14 (.calm 15 <| .must 6 <| .calm 7 <| .must 10 <| Cs [11,16] <| .must 19 <| .calm 20 <| .must 23 <| Cs [24,25] <| .done)) 14 (.calm 15 <| .must 3 <| .must 6 <| .calm 7 <| .must 10 <| Cs [11,16] <| .must 19 <| .calm 20 <| .must 23 <| Cs [24,25] <| .done)) mixed (by kernel_rfl) ?_ | refine WC_region ?_ | refine WR_either ?_ ?_)
  all_goals
    refine ⟨rfl, _, _, Res1 rfl (resV_tmp rfl), .cons _ (.cons _ (.refl _)), ?_, rfl⟩
    simp [encs, Fk.enc, bV, x0w]
set_option maxHeartbeats 4000000 in
theorem rOp_fn {cs : Array Value} {vs : List Value} {L : List (Nat × Obj)} (hv : Oks opF vs) (hl : Lies cs 0 vs) : Fn Tryz.prog 106 [.agg cs] L (fun r L' => r = .string (bstr (encs opF vs)) ∧ L' = L) := by
  obtain ⟨x0, us, rfl, xh0, hv⟩ := hv.split
  obtain ⟨x1, us, rfl, xh1, hv⟩ := hv.split
  obtain ⟨x2, us, rfl, xh2, hv⟩ := hv.split
  obtain ⟨x3, us, rfl, xh3, hv⟩ := hv.split
  obtain rfl := hv.nil
  have ex0 := enc_len_ok xh0
  obtain ⟨x0, rfl, x0lo, x0hi⟩ := xh0
  have fx0 : (enc (zz x0)).length ≤ 10 := ex0
  have ex1 := enc_len_ok xh1
  obtain ⟨x1, rfl, x1lo, x1hi⟩ := xh1
  have fx1 : (enc (zz x1)).length ≤ 10 := ex1
  have ex2 := enc_len_ok xh2
  obtain ⟨x2, rfl, x2lo, x2hi⟩ := xh2
  have fx2 : (enc (zz x2)).length ≤ 10 := ex2
  have ex3 := enc_len_ok xh3
  obtain ⟨x3, rfl, x3lo, x3hi⟩ := xh3
  have fx3 : (enc (zz x3)).length ≤ 10 := ex3
  have c0 := lies0 hl (j := 0) rfl
  have c1 := lies0 hl (j := 1) rfl
  have c2 := lies0 hl (j := 2) rfl
  have c3 := lies0 hl (j := 3) rfl
  refine Fn_enter Tryz.func106 rfl Tryz.ntmps106 rfl fun g => ?_
  repeat (first | refine RQr ?_ | (refine OX ?_; (first | (refine OE ?_; try intro _) | refine OW_callP rfl (hF := Int_fn (by with_reducible assumption) (by with_reducible assumption)) (hk := ?_) | refine OW_callP rfl (hF := rW_fn (by with_reducible assumption) (by with_reducible assumption)) (hk := ?_)); try refine SD ?_) | refine RC ?_ | refine RU ?_ | refine WC_draw_all (id := 1) 16 (Cs [0,1,3,4,7,8,11,12] <| .must 2 <| .must 5 <| .calm 6 <| .must 9 <| .calm 10 <| .must 13 <| Cs [14,15] <| .done) mixed (by kernel_rfl) ?_ | refine WC_region ?_)
  refine ⟨rfl, _, _, Res1 rfl (resV_tmp rfl), .cons _ (.refl _), ?_, rfl⟩
  simp [encs, Fk.enc]
set_option maxHeartbeats 4000000 in
theorem rAcc_fn {cs : Array Value} {vs : List Value} {L : List (Nat × Obj)} (hv : Oks accF vs) (hl : Lies cs 0 vs) : Fn Tryz.prog 130 [.agg cs] L (fun r L' => r = .string (bstr (encs accF vs)) ∧ L' = L) := by
  obtain ⟨x0, us, rfl, xh0, hv⟩ := hv.split
  obtain ⟨x1, us, rfl, xh1, hv⟩ := hv.split
  obtain ⟨x2, us, rfl, xh2, hv⟩ := hv.split
  obtain ⟨x3, us, rfl, xh3, hv⟩ := hv.split
  obtain ⟨x4, us, rfl, xh4, hv⟩ := hv.split
  obtain rfl := hv.nil
  have ex0 := enc_len_ok xh0
  obtain ⟨x0, rfl, x0lo, x0hi⟩ := xh0
  have fx0 : (enc (zz x0)).length ≤ 10 := ex0
  have ex1 := enc_len_ok xh1
  obtain ⟨x1, rfl, x1lo, x1hi⟩ := xh1
  have fx1 : (enc (zz x1)).length ≤ 10 := ex1
  have ex2 := enc_len_ok xh2
  obtain ⟨x2, rfl, x2lo, x2hi⟩ := xh2
  have fx2 : (enc x2.toNat).length ≤ 10 := ex2
  have ex3 := enc_len_ok xh3
  obtain ⟨x3, rfl, x3lo, x3hi⟩ := xh3
  have fx3 : (enc (zz x3)).length ≤ 10 := ex3
  have ex4 := enc_len_ok xh4
  obtain ⟨x4, rfl, x4lo, x4hi⟩ := xh4
  have fx4 : (enc (zz x4)).length ≤ 10 := ex4
  have c0 := lies0 hl (j := 0) rfl
  have c1 := lies0 hl (j := 1) rfl
  have c2 := lies0 hl (j := 2) rfl
  have c3 := lies0 hl (j := 3) rfl
  have c4 := lies0 hl (j := 4) rfl
  refine Fn_enter Tryz.func130 rfl Tryz.ntmps130 rfl fun g => ?_
  repeat (first | refine RQr ?_ | (refine OX ?_; (first | (refine OE ?_; try intro _) | refine OW_callP rfl (hF := Int_fn (by with_reducible assumption) (by with_reducible assumption)) (hk := ?_) | refine OW_callP rfl (hF := Num_fn' (by with_reducible assumption) (by with_reducible assumption)) (hk := ?_)); try refine SD ?_) | refine RC ?_ | refine RU ?_ | refine WC_draw_all (id := 1) 20 (Cs [0,1,3,4,7,8,11,12,15,16] <| .must 2 <| .must 5 <| .calm 6 <| .must 9 <| .calm 10 <| .must 13 <| .calm 14 <| .must 17 <| Cs [18,19] <| .done) mixed (by kernel_rfl) ?_ | refine WC_region ?_)
  refine ⟨rfl, _, _, Res1 rfl (resV_tmp rfl), .cons _ (.refl _), ?_, rfl⟩
  simp [encs, Fk.enc]
set_option maxHeartbeats 4000000 in
theorem rEntry_fn {cs : Array Value} {vs : List Value} {L : List (Nat × Obj)} (hz : cs.size = 10) (hv : Oks entryF vs) (hl : Lies cs 0 vs) : Fn Tryz.prog 107 [.agg cs] L (fun r L' => r = .string (bstr (encs entryF vs)) ∧ L' = L) := by
  obtain ⟨x0, us, rfl, xh0, hv⟩ := hv.split
  obtain ⟨x1, us, rfl, xh1, hv⟩ := hv.split
  obtain ⟨x2, us, rfl, xh2, hv⟩ := hv.split
  obtain ⟨x3, us, rfl, xh3, hv⟩ := hv.split
  obtain ⟨x4, us, rfl, xh4, hv⟩ := hv.split
  obtain ⟨x5, us, rfl, xh5, hv⟩ := hv.split
  obtain ⟨x6, us, rfl, xh6, hv⟩ := hv.split
  obtain ⟨x7, us, rfl, xh7, hv⟩ := hv.split
  obtain ⟨x8, us, rfl, xh8, hv⟩ := hv.split
  obtain ⟨x9, us, rfl, xh9, hv⟩ := hv.split
  obtain rfl := hv.nil
  have hs5 : Oks accF [x5, x6, x7, x8, x9] := ⟨xh5, xh6, xh7, xh8, xh9, trivial⟩
  have hl5 : Lies (cs.extract 5 (5 + 5)) 0 [x5, x6, x7, x8, x9] := lies_extract (by have h := hl.cut 5 5; rwa [Nat.zero_add] at h) (Nat.le_refl _)
  have hsl5 := encs_len hs5
  simp only [List.length_cons, List.length_nil] at hsl5
  have ex0 := enc_len_ok xh0
  obtain ⟨x0, rfl, x0lo, x0hi⟩ := xh0
  have fx0 : (enc (zz x0)).length ≤ 10 := ex0
  have ex1 := enc_len_ok xh1
  obtain ⟨x1, rfl, x1lo, x1hi⟩ := xh1
  have x1w : IntKind.u64.wrap x1 = x1 := wU64 x1lo (by omega)
  have x1wl := u64_lo x1
  have x1wh := u64_hi x1
  have fx1 : (enc (IntKind.u64.wrap x1).toNat).length ≤ 10 := by rw [x1w]; exact ex1
  have ex2 := enc_len_ok xh2
  obtain ⟨x2, rfl, x2lo, x2hi⟩ := xh2
  have fx2 : (enc (zz x2)).length ≤ 10 := ex2
  have ex3 := enc_len_ok xh3
  obtain ⟨x3, rfl, x3lo, x3hi⟩ := xh3
  have fx3 : (enc (zz x3)).length ≤ 10 := ex3
  have ex4 := enc_len_ok xh4
  obtain ⟨x4, rfl⟩ := xh4
  have ex5 := enc_len_ok xh5
  have ex6 := enc_len_ok xh6
  have ex7 := enc_len_ok xh7
  have ex8 := enc_len_ok xh8
  have ex9 := enc_len_ok xh9
  have c0 := lies0 hl (j := 0) rfl
  have c1 := lies0 hl (j := 1) rfl
  have c2 := lies0 hl (j := 2) rfl
  have c3 := lies0 hl (j := 3) rfl
  have c4 := lies0 hl (j := 4) rfl
  refine Fn_enter Tryz.func107 rfl Tryz.ntmps107 rfl fun g => ?_
  repeat' (first | refine RQr ?_ | (refine OX ?_; (first | (refine OE ?_; try intro _) | refine OW_callP rfl (hF := Int_fn (by with_reducible assumption) (by with_reducible assumption)) (hk := ?_) | refine OW_callP rfl (hF := Num_fn' (by with_reducible assumption) (by with_reducible assumption)) (hk := ?_) | refine OW_callP rfl (hF := rW_fn (by with_reducible assumption) (by with_reducible assumption)) (hk := ?_) | refine OW_callP rfl (hF := rAcc_fn hs5 hl5) (hk := ?_)); try refine SD ?_) | refine RC ?_ | refine RU ?_ | refine WC_draw_all (id := 1) 26 (Cs [0,1,3,4,5,8,9,12,13,16,17,21,22] <| .either 2 (.either 6 (.calm 7 <| .either 10 (.calm 11 <| .either 14 (.calm 15 <| .either 18 (Cs [19,20] <| .must 23 <| Cs [24,25] <| .done) 23 (.must 18 <| Cs [19,20,24,25] <| .done)) 18 (.calm 19 <| .must 14 <| Cs [15,20] <| .must 23 <| Cs [24,25] <| .done)) 18 (.calm 19 <| .must 10 <| .calm 11 <| .must 14 <| Cs [15,20] <| .must 23 <| Cs [24,25] <| .done)) 18 (.calm 19 <| .must 6 <| .calm 7 <| .must 10 <| .calm 11 <| .must 14 <| Cs [15,20] <| .must 23 <| Cs [24,25] <| .done)) 18 (.calm 19 <| .must 2 <| .must 6 <| .calm 7 <| .must 10 <| .calm 11 <| .must 14 <| Cs [15,20] <| .must 23 <| Cs [24,25] <| .done)) mixed (by kernel_rfl) ?_ | refine WC_region ?_ | refine WR_either ?_ ?_)
  all_goals
    refine ⟨rfl, _, _, Res1 rfl (resV_tmp rfl), .cons _ (.cons _ (.refl _)), ?_, rfl⟩
    simp [encs, Fk.enc, bV, x1w]
end Go.Proofs.YtdiaogcogkapgaaGreatDoor
