/-
  A part of what the last of these texts needs; by itself it proves no statement.
-/
import Derived.Test.YtdiaogcogkapgaaGreatDoorKC8
namespace Go.Proofs.YtdiaogcogkapgaaGreatDoor
open Go.RowKit
attribute [local irreducible] Fn WC WL WR OW Qt YieldFn QW FnP FnD FnE
theorem ok1 {k : Fk} {v : Value} (h : k.ok v) : Oks [k] [v] := ⟨h, trivial⟩
section
variable {pb : Nat} {T0 : List (Nat × Obj)} {n0 : Nat}
set_option maxHeartbeats 4000000 in
theorem pcmd {bs : List UInt8} {Lp R : List (Nat × Obj)} {i b : Nat} {cs : Array Value} {E : TypeId} {fr : Nat × Nat} {off : Nat} {a : Option Addr} {cap : Nat} {ch ct : List Value} {bins : List (List Value)} (hM : PMem pb T0 n0 bs Lp) (hT : ∀ q ∈ T0, q ∈ R) (hn : bins.length ≤ 1000000) (hroom : bs.length + 100 + 10 * bins.length ≤ 1000000000) (hR : R[i]? = some (b, .cells cs E fr)) (hch : Oks chF ch) (hct : Oks ctF ct) (hb : ∀ vs ∈ bins, Oks binF vs)
    (hl : Lies cs off (ch ++ (.slice a bins.length cap :: ct))) (he : Elems R a 1 bins) (hfr : Free fr off 10) :
    Fn Tryz.prog 96 [putV pb, .pointer (some ⟨b, off, none⟩)] (Lp ++ R) (fun v L' => v = .tuple #[] ∧ ∃ Lp', L' = Lp' ++ R ∧ PMem pb T0 n0 (bs ++ encCmd ch bins ct) Lp') := by
  obtain ⟨c0, us, rfl, h0, hch'⟩ := hch.split
  obtain ⟨c1, us, rfl, h1, hch''⟩ := hch'.split
  obtain rfl := hch''.nil
  obtain ⟨t0, us, rfl, k0, q⟩ := hct.split
  obtain ⟨t1, us, rfl, k1, q⟩ := q.split
  obtain ⟨t2, us, rfl, k2, q⟩ := q.split
  obtain ⟨t3, us, rfl, k3, q⟩ := q.split
  obtain ⟨t4, us, rfl, k4, q⟩ := q.split
  obtain ⟨t5, us, rfl, k5, q⟩ := q.split
  obtain ⟨t6, us, rfl, k6, q⟩ := q.split
  obtain rfl := q.nil
  have ih := (putM pb T0 n0).ih
  have jn := (putM pb T0 n0).jn
  have im := (putM pb T0 n0).im
  have iw := (putM pb T0 n0).iw
  have it := (putM pb T0 n0).it
  have qw : methX Tryz.prog 177 "anabranch/codec.whole" = some 174 := (putM pb T0 n0).mw
  have qt : methX Tryz.prog 177 "anabranch/codec.truth" = some 173 := (putM pb T0 n0).mt
  have qm : methX Tryz.prog 177 "anabranch/codec.must" = some 170 := (putM pb T0 n0).mm
  have e0 := enc_len_ok h0
  have e1 := enc_len_ok h1
  have e2 := encl_len hb hn
  have e3 := enc_len_ok k0
  have e4 := enc_len_ok k1
  have hop : Oks opF [t2, t3, t4, t5] := ⟨k2, k3, k4, k5, trivial⟩
  have e5 := encs_len hop
  have s1 : ∀ v : Value, encs [.ww] [v] = Fk.enc .ww v := fun v => by simp [encs]
  have e5' : (encs opF [t2, t3, t4, t5]).length ≤ 40 := e5
  have e2' : (encl binF bins).length ≤ 10 + 10 * bins.length := by simpa using e2
  refine Fn_enter Tryz.func96 rfl Tryz.ntmps96 rfl fun g => ?_
  repeat (first | refine RQ ?_ | (refine WL_Q ?_; (first | refine QW_of (Qt_nilCheck_m rfl) ?_)) | refine RC ?_ | refine WG 0 ?_)
  refine WL_op rfl ?_
  refine OW_callE rfl (FnE.ofFn (Rp := fun _ _ => False) (putF (fs := [.ww]) (small_flat (putM pb T0 n0)) hM hT (show bs.length + 10 * 1 ≤ 1000000000 by omega) hR (ok1 h0) (hl.cut 0 1) (hfr.sub 0 1 (by decide)))) ?_ (fun _ _ h => h.elim)
  rintro _ _ ⟨rfl, Lp0, rfl, hM0⟩
  repeat (first | refine RQ ?_ | (refine WL_Q ?_; (first | refine QW_of (Qt_nilCheck_m rfl) ?_)) | refine RC ?_ | refine WG 0 ?_)
  repeat (first | refine RQ ?_ | (refine WL_Q ?_; (first | refine QW_of (Qt_nilCheck_m rfl) ?_)) | refine RC ?_ | refine WG 0 ?_)
  refine WC_draw_sub (id := 1) 8 (.calm 0 <| .calm 1 <| .calm 2 <| .calm 3 <| .calm 4 <| .calm 5 <| .calm 6 <| .must 7 <| .done) mixed (by kernel_rfl) (List.nil_sublist _) ?_
  repeat (first | refine RQr ?_ | (refine RX ?_; (first | refine QW_of (Qt_nilCheck_m rfl) ?_)) | refine RC ?_ | refine RU ?_ | refine WC_draw_all (id := 1) 8 (.calm 0 <| .calm 1 <| .calm 2 <| .calm 3 <| .calm 4 <| .calm 5 <| .calm 6 <| .must 7 <| .done) mixed (by kernel_rfl) ?_ | refine WG 0 ?_)
  refine WR_op rfl rfl ?_
  refine OW_invE (putM pb T0 n0).mw rfl (FnE.ofFn (Rp := fun _ _ => False) (putF (fs := [.ww]) put_whole hM0 hT (show (bs ++ encs [.ww] [c0]).length + 10 * 1 ≤ 1000000000 by simp only [List.length_append, s1]; omega) hR (ok1 h1) (hl.cut 1 1) (hfr.sub 1 1 (by decide)))) ?_ (fun _ _ h => h.elim)
  rintro _ _ ⟨rfl, Lp1, rfl, hM1⟩
  refine ⟨(fun q hq => (by cases hq)), ?_⟩
  repeat (first | refine RQr ?_ | (refine RX ?_; (first | refine QW_of (Qt_nilCheck_m rfl) ?_)) | refine RC ?_ | refine RU ?_ | refine WC_draw_all (id := 1) 8 (.calm 0 <| .calm 1 <| .calm 2 <| .calm 3 <| .calm 4 <| .calm 5 <| .calm 6 <| .must 7 <| .done) mixed (by kernel_rfl) ?_ | refine WC_regB 3 ?_)
  refine WL_op rfl ?_
  refine OW_callE rfl (FnE.ofFn (Rp := fun _ _ => False) (plist_int (most := 8) hM1 hT hn (show (bs ++ encs [.ww] [c0] ++ encs [.ww] [c1]).length + 10 + 10 * bins.length ≤ 1000000000 by simp only [List.length_append, s1]; omega) hR ((hl.cut 2 1) 0 _ rfl) he hb)) ?_ (fun _ _ h => h.elim)
  rintro _ _ ⟨rfl, Lp2, rfl, hM2⟩
  repeat (first | refine RQ ?_ | (refine WL_Q ?_; (first | refine QW_of (Qt_nilCheck_m rfl) ?_)) | refine RC ?_ | refine WG 2 ?_ | refine WG 3 ?_)
  refine WL_op rfl ?_
  refine OW_callE rfl (FnE.ofFn (Rp := fun _ _ => False) (putF (fs := [.ww]) (small_flat (putM pb T0 n0)) hM2 hT (show (bs ++ encs [.ww] [c0] ++ encs [.ww] [c1] ++ encl binF bins).length + 10 * 1 ≤ 1000000000 by simp only [List.length_append, s1]; omega) hR (ok1 k0) (hl.cut 3 1) (hfr.sub 3 1 (by decide)))) ?_ (fun _ _ h => h.elim)
  rintro _ _ ⟨rfl, Lp3, rfl, hM3⟩
  repeat (first | refine RQ ?_ | (refine WL_Q ?_; (first | refine QW_of (Qt_nilCheck_m rfl) ?_)) | refine RC ?_ | refine WG 2 ?_ | refine WG 3 ?_ | refine WG 4 ?_)
  refine WL_op rfl ?_
  refine OW_callE rfl (FnE.ofFn (Rp := fun _ _ => False) (putF (fs := [.ww]) (small_flat (putM pb T0 n0)) hM3 hT (show (bs ++ encs [.ww] [c0] ++ encs [.ww] [c1] ++ encl binF bins ++ encs [.ww] [t0]).length + 10 * 1 ≤ 1000000000 by simp only [List.length_append, s1]; omega) hR (ok1 k1) (hl.cut 4 1) (hfr.sub 4 1 (by decide)))) ?_ (fun _ _ h => h.elim)
  rintro _ _ ⟨rfl, Lp4, rfl, hM4⟩
  repeat (first | refine RQ ?_ | (refine WL_Q ?_; (first | refine QW_of (Qt_nilCheck_m rfl) ?_)) | refine RC ?_ | refine WG 2 ?_ | refine WG 3 ?_ | refine WG 4 ?_ | refine WG 5 ?_)
  refine WL_op rfl ?_
  refine OW_callE rfl (FnE.ofFn (Rp := fun _ _ => False) (putF (fs := opF) (op_flat (putM pb T0 n0)) hM4 hT (show (bs ++ encs [.ww] [c0] ++ encs [.ww] [c1] ++ encl binF bins ++ encs [.ww] [t0] ++ encs [.ww] [t1]).length + 10 * 4 ≤ 1000000000 by simp only [List.length_append, s1]; omega) hR hop (hl.cut 5 4) (hfr.sub 5 4 (by decide)))) ?_ (fun _ _ h => h.elim)
  rintro _ _ ⟨rfl, Lp5, rfl, hM5⟩
  repeat (first | refine RQ ?_ | (refine WL_Q ?_; (first | refine QW_of (Qt_nilCheck_m rfl) ?_)) | refine RC ?_ | refine WG 2 ?_ | refine WG 3 ?_ | refine WG 4 ?_ | refine WG 5 ?_ | refine WG 6 ?_)
  refine WL_op rfl ?_
  refine OW_callE rfl (FnE.ofFn (Rp := fun _ _ => False) (putF (fs := [.ww]) (small_flat (putM pb T0 n0)) hM5 hT (show (bs ++ encs [.ww] [c0] ++ encs [.ww] [c1] ++ encl binF bins ++ encs [.ww] [t0] ++ encs [.ww] [t1] ++ encs opF [t2, t3, t4, t5]).length + 10 * 1 ≤ 1000000000 by simp only [List.length_append, s1]; omega) hR (ok1 k6) (hl.cut 9 1) (hfr.sub 9 1 (by decide)))) ?_ (fun _ _ h => h.elim)
  rintro _ _ ⟨rfl, Lp6, rfl, hM6⟩
  repeat (first | refine RQ ?_ | (refine WL_Q ?_; (first | refine QW_of (Qt_nilCheck_m rfl) ?_)) | refine RC ?_ | refine WG 2 ?_ | refine WG 3 ?_ | refine WG 4 ?_ | refine WG 5 ?_ | refine WG 6 ?_)
  refine ⟨rfl, _, _, Res0 rfl, .refl _, rfl, Lp6, rfl, ?_⟩
  have e : bs ++ encCmd [c0, c1] bins [t0, t1, t2, t3, t4, t5, t6] = (bs ++ encs [.ww] [c0] ++ encs [.ww] [c1] ++ encl binF bins ++ encs [.ww] [t0] ++ encs [.ww] [t1] ++ encs opF [t2, t3, t4, t5]) ++ encs [.ww] [t6] := by simp [encCmd, encs]
  rw [e]; exact hM6
set_option maxHeartbeats 4000000 in
theorem pchunk {bs : List UInt8} {Lp R : List (Nat × Obj)} {i b : Nat} {cs : Array Value} {E : TypeId} {fr : Nat × Nat} {off : Nat} {a : Option Addr} {cap : Nat} {kh : List Value} {ents : List (List Value)} (hM : PMem pb T0 n0 bs Lp) (hT : ∀ q ∈ T0, q ∈ R) (hn : ents.length ≤ 1000000) (hroom : bs.length + 100 + 100 * ents.length ≤ 1000000000) (hR : R[i]? = some (b, .cells cs E fr)) (hkh : Oks khF kh) (hb : ∀ vs ∈ ents, Oks entryF vs)
    (hl : Lies cs off (kh ++ [.slice a ents.length cap])) (he : Elems R a 10 ents) (hfr : Free fr off 4) :
    Fn Tryz.prog 97 [putV pb, .pointer (some ⟨b, off, none⟩)] (Lp ++ R) (fun v L' => v = .tuple #[] ∧ ∃ Lp', L' = Lp' ++ R ∧ PMem pb T0 n0 (bs ++ encChunk kh ents) Lp') := by
  obtain ⟨c0, us, rfl, h0, q⟩ := hkh.split
  obtain ⟨c1, us, rfl, h1, q⟩ := q.split
  obtain ⟨c2, us, rfl, h2, q⟩ := q.split
  obtain rfl := q.nil
  have ih := (putM pb T0 n0).ih
  have jn := (putM pb T0 n0).jn
  have im := (putM pb T0 n0).im
  have iw := (putM pb T0 n0).iw
  have it := (putM pb T0 n0).it
  have qw : methX Tryz.prog 177 "anabranch/codec.whole" = some 174 := (putM pb T0 n0).mw
  have qt : methX Tryz.prog 177 "anabranch/codec.truth" = some 173 := (putM pb T0 n0).mt
  have qm : methX Tryz.prog 177 "anabranch/codec.must" = some 170 := (putM pb T0 n0).mm
  have e0 := enc_len_ok h0
  have e1 := enc_len_ok h1
  have e2 := enc_len_ok h2
  have s1 : ∀ (k : Fk) (v : Value), encs [k] [v] = k.enc v := fun k v => by simp [encs]
  refine Fn_enter Tryz.func97 rfl Tryz.ntmps97 rfl fun g => ?_
  repeat (first | refine RQ ?_ | (refine WL_Q ?_; (first | refine QW_of (Qt_nilCheck_m rfl) ?_)) | refine RC ?_ | refine WG 0 ?_)
  refine WL_op rfl ?_
  refine OW_callE rfl (FnE.ofFn (Rp := fun _ _ => False) (putF (fs := [.ww]) (small_flat (putM pb T0 n0)) hM hT (show bs.length + 10 * 1 ≤ 1000000000 by omega) hR (ok1 h0) (hl.cut 0 1) (hfr.sub 0 1 (by decide)))) ?_ (fun _ _ h => h.elim)
  rintro _ _ ⟨rfl, Lp0, rfl, hM0⟩
  repeat (first | refine RQ ?_ | (refine WL_Q ?_; (first | refine QW_of (Qt_nilCheck_m rfl) ?_)) | refine RC ?_ | refine WC_regB 2 ?_)
  refine WL_op rfl ?_
  refine OW_callE rfl (FnE.ofFn (Rp := fun _ _ => False) (putF (fs := [.ww]) (small_flat (putM pb T0 n0)) hM0 hT (show (bs ++ encs [.ww] [c0]).length + 10 * 1 ≤ 1000000000 by simp only [List.length_append, s1]; omega) hR (ok1 h1) (hl.cut 1 1) (hfr.sub 1 1 (by decide)))) ?_ (fun _ _ h => h.elim)
  rintro _ _ ⟨rfl, Lp1, rfl, hM1⟩
  repeat (first | refine RQ ?_ | (refine WL_Q ?_; (first | refine QW_of (Qt_nilCheck_m rfl) ?_)) | refine RC ?_ | refine WC_regB 2 ?_)
  repeat (first | refine RQ ?_ | (refine WL_Q ?_; (first | refine QW_of (Qt_nilCheck_m rfl) ?_)) | refine RC ?_ | refine WC_regB 2 ?_)
  refine WC_draw_sub (id := 2) 8 (.calm 0 <| .calm 1 <| .calm 2 <| .calm 3 <| .calm 4 <| .calm 5 <| .calm 6 <| .must 7 <| .done) mixed (by kernel_rfl) (List.nil_sublist _) ?_
  repeat (first | refine RQr ?_ | (refine RX ?_; (first | refine QW_of (Qt_nilCheck_m rfl) ?_)) | refine RC ?_ | refine RU ?_ | refine WC_draw_all (id := 2) 8 (.calm 0 <| .calm 1 <| .calm 2 <| .calm 3 <| .calm 4 <| .calm 5 <| .calm 6 <| .must 7 <| .done) mixed (by kernel_rfl) ?_ | refine WC_regB 3 ?_)
  refine WR_op rfl rfl ?_
  refine OW_invE (putM pb T0 n0).mt rfl (FnE.ofFn (Rp := fun _ _ => False) (putF (fs := [.tt]) put_truth hM1 hT (show (bs ++ encs [.ww] [c0] ++ encs [.ww] [c1]).length + 10 * 1 ≤ 1000000000 by simp only [List.length_append, s1]; omega) hR (ok1 h2) (hl.cut 2 1) (hfr.sub 2 1 (by decide)))) ?_ (fun _ _ h => h.elim)
  rintro _ _ ⟨rfl, Lp2, rfl, hM2⟩
  refine ⟨(fun q hq => (by cases hq)), ?_⟩
  repeat (first | refine RQr ?_ | (refine RX ?_; (first | refine QW_of (Qt_nilCheck_m rfl) ?_)) | refine RC ?_ | refine RU ?_ | refine WC_draw_all (id := 2) 8 (.calm 0 <| .calm 1 <| .calm 2 <| .calm 3 <| .calm 4 <| .calm 5 <| .calm 6 <| .must 7 <| .done) mixed (by kernel_rfl) ?_ | refine WC_region ?_)
  refine WL_op rfl ?_
  refine OW_callE rfl (FnE.ofFn (Rp := fun _ _ => False) (plist_entry (most := 64) hM2 hT hn (show (bs ++ encs [.ww] [c0] ++ encs [.ww] [c1] ++ encs [.tt] [c2]).length + 10 + 100 * ents.length ≤ 1000000000 by simp only [List.length_append, s1]; omega) hR ((hl.cut 3 1) 0 _ rfl) he hb)) ?_ (fun _ _ h => h.elim)
  rintro _ _ ⟨rfl, Lp3, rfl, hM3⟩
  repeat (first | refine RQ ?_ | (refine WL_Q ?_; (first | refine QW_of (Qt_nilCheck_m rfl) ?_)) | refine RC ?_ | refine WG 0 ?_ | refine WG 1 ?_ | refine WG 3 ?_)
  refine ⟨rfl, _, _, Res0 rfl, .refl _, rfl, Lp3, rfl, ?_⟩
  have e : bs ++ encChunk [c0, c1, c2] ents = (bs ++ encs [.ww] [c0] ++ encs [.ww] [c1] ++ encs [.tt] [c2]) ++ encl entryF ents := by simp [encChunk, encs]
  rw [e]; exact hM3
def MV.cells (m : MV) (a : Option Addr) (cap : Nat) (a' : Option Addr) (cap' : Nat) : List Value :=
  [.int .i64 m.kind, .int .i64 m.ver] ++ (m.rc ++ ([.int .i64 m.time, .int .i64 m.num] ++ ((m.ch ++ (.slice a m.bins.length cap :: m.ct)) ++ (m.kh ++ [.slice a' m.ents.length cap']))))
theorem MV.cells_at {m : MV} (h : m.Ok) {cs : Array Value} {off : Nat} {a : Option Addr} {cap : Nat} {a' : Option Addr} {cap' : Nat} (hl : Lies cs off (m.cells a cap a' cap')) :
    cs[off + 0]? = some (.int .i64 m.kind) ∧ cs[off + 1]? = some (.int .i64 m.ver) ∧ Lies cs (off + 2) m.rc ∧ cs[off + 8]? = some (.int .i64 m.time) ∧ cs[off + 9]? = some (.int .i64 m.num) ∧ Lies cs (off + 10) (m.ch ++ (.slice a m.bins.length cap :: m.ct)) ∧ Lies cs (off + 20) (m.kh ++ [.slice a' m.ents.length cap']) := by
  have l1 := h.rc.len
  have l2 := h.ch.len
  have l3 := h.ct.len
  simp only [List.length_cons, List.length_nil] at l1 l2 l3
  obtain ⟨h1, q⟩ := Lies.app hl
  obtain ⟨h2, q⟩ := Lies.app q
  obtain ⟨h3, q⟩ := Lies.app q
  obtain ⟨h4, h5⟩ := Lies.app q
  simp only [List.length_append, List.length_cons, List.length_nil, l1, l2, l3, Nat.add_assoc] at h2 h3 h4 h5
  exact ⟨h1 0 _ rfl, h1 1 _ rfl, h2, h3 0 _ rfl, h3 1 _ rfl, h4, h5⟩
theorem one_lies {cs : Array Value} {off : Nat} {v : Value} (h : cs[off]? = some v) : Lies cs off [v] := fun j u hj => by
  cases j with
  | zero => simp at hj; subst hj; exact h
  | succ j => simp at hj
set_option maxHeartbeats 8000000 in
theorem pmsg {bs : List UInt8} {Lp R : List (Nat × Obj)} {i b : Nat} {cs : Array Value} {E : TypeId} {fr : Nat × Nat} {off : Nat} {a : Option Addr} {cap : Nat} {a' : Option Addr} {cap' : Nat} {m : MV} (hM : PMem pb T0 n0 bs Lp) (hT : ∀ q ∈ T0, q ∈ R) (hm : m.Ok) (hn : m.bins.length ≤ 1000000) (hn' : m.ents.length ≤ 1000000) (hroom : bs.length + 1000 + 10 * m.bins.length + 100 * m.ents.length ≤ 1000000000) (hR : R[i]? = some (b, .cells cs E fr))
    (hl : Lies cs off (m.cells a cap a' cap')) (he : Elems R a 1 m.bins) (he' : Elems R a' 10 m.ents) (hfr : Free fr off 24) :
    Fn Tryz.prog 74 [putV pb, .pointer (some ⟨b, off, none⟩)] (Lp ++ R) (fun v L' => v = .tuple #[] ∧ ∃ Lp', L' = Lp' ++ R ∧ PMem pb T0 n0 (bs ++ m.enc) Lp') := by
  obtain ⟨g0, g1, g2, g3, g4, g5, g6⟩ := MV.cells_at hm hl
  have ih := (putM pb T0 n0).ih
  have jn := (putM pb T0 n0).jn
  have im := (putM pb T0 n0).im
  have iw := (putM pb T0 n0).iw
  have it := (putM pb T0 n0).it
  have qw : methX Tryz.prog 177 "anabranch/codec.whole" = some 174 := (putM pb T0 n0).mw
  have qt : methX Tryz.prog 177 "anabranch/codec.truth" = some 173 := (putM pb T0 n0).mt
  have qm : methX Tryz.prog 177 "anabranch/codec.must" = some 170 := (putM pb T0 n0).mm
  have e0 := enc_len (zz_lt hm.kind.1 hm.kind.2)
  have e1 := enc_len (zz_lt hm.ver.1 hm.ver.2)
  have o0 : Fk.ok .ww (.int .i64 m.kind) := ⟨_, rfl, hm.kind.1, hm.kind.2⟩
  have o1 : Fk.ok .ww (.int .i64 m.ver) := ⟨_, rfl, hm.ver.1, hm.ver.2⟩
  have o2 : Fk.ok .ww (.int .i64 m.time) := ⟨_, rfl, hm.time.1, hm.time.2⟩
  have o3 : Fk.ok .ww (.int .i64 m.num) := ⟨_, rfl, hm.num.1, hm.num.2⟩
  have s1 : ∀ x : Int, encs [.ww] [.int .i64 x] = enc (zz x) := fun x => by simp [encs, Fk.enc]
  have e2 := encs_len hm.rc
  refine Fn_enter Tryz.func74 rfl Tryz.ntmps74 rfl fun g => ?_
  repeat (first | refine RQ ?_ | (refine WL_Q ?_; (first | refine QW_of (Qt_nilCheck_m rfl) ?_)) | refine RC ?_ | refine WG 0 ?_)
  refine WL_op rfl ?_
  refine OW_invE (putM pb T0 n0).mh rfl (put_here bs Lp R hM) ?_ (fun _ _ h => h.elim)
  rintro _ _ ⟨rfl, Lp0, rfl, hM0⟩
  repeat (first | refine RQ ?_ | (refine WL_Q ?_; (first | refine QW_of (Qt_nilCheck_m rfl) ?_)) | refine RC ?_ | refine WC_regB 2 ?_)
  refine WL_op rfl ?_
  refine OW_callE rfl (FnE.ofFn (Rp := fun _ _ => False) (putF (fs := [.ww]) (small_flat (putM pb T0 n0)) hM0 hT (show bs.length + 10 * 1 ≤ 1000000000 by omega) hR (ok1 o0) (one_lies g0) (hfr.sub 0 1 (by decide)))) ?_ (fun _ _ h => h.elim)
  rintro _ _ ⟨rfl, Lp1, rfl, hM1⟩
  rw [s1] at hM1
  have hX := get_app (A := Lp1) hR
  repeat (first | refine RQ ?_ | ((first | refine WL_Q ?_ | refine WL_Y ?_); (first | refine QW_of (Qt_nilCheck_m rfl) ?_)) | refine RC ?_ | refine WG 1 ?_)
  refine WC_meet (fun σ => σ = ⟨[(0, putV pb), (1, .pointer (some ⟨b, off, none⟩))], [], Lp1 ++ R⟩) ?_ ?_
  · by_cases hk : 0 ≤ m.kind
    · have d1 : decide (m.kind ≥ 0) = true := decide_eq_true hk
      repeat (first | refine RQr ?_ | ((first | refine WL_Q ?_ | refine WL_Y ?_ | refine WR_Q rfl ?_ | refine WR_late rfl rfl rfl (OW_Q ?_) | refine WR_Y rfl ?_); (first | refine QW_of (Qt_nilCheck_m rfl) ?_)) | refine RC ?_ | refine RU ?_ | refine WC_draw_all (id := 2) 17 (.calm 0 <| .calm 1 <| .calm 2 <| .calm 3 <| .calm 4 <| .calm 5 <| .calm 6 <| .calm 7 <| .calm 8 <| .calm 9 <| .calm 10 <| .calm 11 <| .calm 12 <| .calm 13 <| .calm 14 <| .calm 15 <| .must 16 <| .done) mixed (by kernel_rfl) ?_)
      refine WR_op rfl rfl ?_
      refine OW_invE (putM pb T0 n0).mm rfl (put_must Lp1 R _ 6) ?_ (fun _ _ h => h.elim)
      rintro _ _ ⟨rfl, rfl⟩
      refine ⟨fun _ h => h, ?_⟩
      repeat (first | refine RQr ?_ | ((first | refine WL_Q ?_ | refine WL_Y ?_ | refine WR_Q rfl ?_ | refine WR_late rfl rfl rfl (OW_Q ?_) | refine WR_Y rfl ?_); (first | refine QW_of (Qt_nilCheck_m rfl) ?_)) | refine RC ?_ | refine RU ?_ | refine WC_draw_all (id := 2) 17 (.calm 0 <| .calm 1 <| .calm 2 <| .calm 3 <| .calm 4 <| .calm 5 <| .calm 6 <| .calm 7 <| .calm 8 <| .calm 9 <| .calm 10 <| .calm 11 <| .calm 12 <| .calm 13 <| .calm 14 <| .calm 15 <| .must 16 <| .done) mixed (by kernel_rfl) ?_)
      exact ⟨_, rfl, ⟨rfl, rfl, trivial⟩, rfl, .refl _⟩
    · have d1 : decide (m.kind ≥ 0) = false := decide_eq_false hk
      repeat (first | refine RQr ?_ | ((first | refine WL_Q ?_ | refine WL_Y ?_ | refine WR_Q rfl ?_ | refine WR_late rfl rfl rfl (OW_Q ?_) | refine WR_Y rfl ?_); (first | refine QW_of (Qt_nilCheck_m rfl) ?_)) | refine RC ?_ | refine RU ?_ | refine WC_draw_all (id := 2) 17 (.calm 0 <| .calm 1 <| .calm 2 <| .calm 3 <| .calm 4 <| .calm 5 <| .calm 6 <| .calm 7 <| .calm 8 <| .calm 9 <| .calm 10 <| .calm 11 <| .calm 12 <| .calm 13 <| .calm 14 <| .calm 15 <| .must 16 <| .done) mixed (by kernel_rfl) ?_)
      refine WR_op rfl rfl ?_
      refine OW_invE (putM pb T0 n0).mm rfl (put_must Lp1 R _ 6) ?_ (fun _ _ h => h.elim)
      rintro _ _ ⟨rfl, rfl⟩
      refine ⟨fun _ h => h, ?_⟩
      repeat (first | refine RQr ?_ | ((first | refine WL_Q ?_ | refine WL_Y ?_ | refine WR_Q rfl ?_ | refine WR_late rfl rfl rfl (OW_Q ?_) | refine WR_Y rfl ?_); (first | refine QW_of (Qt_nilCheck_m rfl) ?_)) | refine RC ?_ | refine RU ?_ | refine WC_draw_all (id := 2) 17 (.calm 0 <| .calm 1 <| .calm 2 <| .calm 3 <| .calm 4 <| .calm 5 <| .calm 6 <| .calm 7 <| .calm 8 <| .calm 9 <| .calm 10 <| .calm 11 <| .calm 12 <| .calm 13 <| .calm 14 <| .calm 15 <| .must 16 <| .done) mixed (by kernel_rfl) ?_)
      exact ⟨_, rfl, ⟨rfl, rfl, trivial⟩, rfl, .refl _⟩
  rintro _ rfl
  repeat (first | refine RQ ?_ | ((first | refine WL_Q ?_ | refine WL_Y ?_); (first | refine QW_of (Qt_nilCheck_m rfl) ?_)) | refine RC ?_ | refine WG 3 ?_)
  refine WL_op rfl ?_
  refine OW_callE rfl (FnE.ofFn (Rp := fun _ _ => False) (putF (fs := [.ww]) (small_flat (putM pb T0 n0)) hM1 hT (show (bs ++ enc (zz m.kind)).length + 10 * 1 ≤ 1000000000 by rw [List.length_append]; omega) hR (ok1 o1) (one_lies g1) (hfr.sub 1 1 (by decide)))) ?_ (fun _ _ h => h.elim)
  rintro _ _ ⟨rfl, Lp2, rfl, hM2⟩
  rw [s1] at hM2
  have hl2 : (bs ++ enc (zz m.kind) ++ enc (zz m.ver)).length ≤ bs.length + 20 := by rw [List.length_append, List.length_append]; omega
  have fin : ∀ {x : List UInt8} {Lp' : List (Nat × Obj)}, m.body = x → PMem pb T0 n0 (bs ++ enc (zz m.kind) ++ enc (zz m.ver) ++ x) Lp' → PMem pb T0 n0 (bs ++ m.enc) Lp' := fun {x Lp'} h1 h2 => by
    have e : bs ++ m.enc = bs ++ enc (zz m.kind) ++ enc (zz m.ver) ++ x := by rw [← h1]; unfold MV.enc; simp
    rw [e]; exact h2
  have hX2 := get_app (A := Lp2) hR
  by_cases hk : m.kind = 0
  · have hk0 := hk
    have d0 : (m.kind == 0) = true := by simpa using hk
    repeat (first | refine RQr ?_ | ((first | refine WL_Q ?_ | refine WL_Y ?_ | refine WR_Q rfl ?_ | refine WR_late rfl rfl rfl (OW_Q ?_) | refine WR_Y rfl ?_); (first | refine QW_of (Qt_nilCheck_m rfl) ?_)) | refine RC ?_ | refine RU ?_ | refine WC_draw_all (id := 8) 8 (.calm 0 <| .calm 1 <| .calm 2 <| .calm 3 <| .calm 4 <| .calm 5 <| .calm 6 <| .must 7 <| .done) mixed (by kernel_rfl) ?_ | refine WG 4 ?_ | refine WG 5 ?_ | refine WG 6 ?_ | refine WG 7 ?_ | refine WG 9 ?_ | refine WG 10 ?_ | refine WG 11 ?_ | refine WG 12 ?_ | refine WG 13 ?_ | refine WG 14 ?_)
    refine WL_op rfl ?_
    refine OW_callE rfl (FnE.ofFn (Rp := fun _ _ => False) (putF (fs := recF) (rec_flat (putM pb T0 n0)) hM2 hT (show (bs ++ enc (zz m.kind) ++ enc (zz m.ver)).length + 10 * 6 ≤ 1000000000 by omega) hR (hm.rc) g2 (hfr.sub 2 6 (by decide)))) ?_ (fun _ _ h => h.elim)
    rintro _ _ ⟨rfl, Lp3, rfl, hM3⟩
    repeat (first | refine RQr ?_ | ((first | refine WL_Q ?_ | refine WL_Y ?_ | refine WR_Q rfl ?_ | refine WR_late rfl rfl rfl (OW_Q ?_) | refine WR_Y rfl ?_); (first | refine QW_of (Qt_nilCheck_m rfl) ?_)) | refine RC ?_ | refine RU ?_ | refine WC_draw_all (id := 8) 8 (.calm 0 <| .calm 1 <| .calm 2 <| .calm 3 <| .calm 4 <| .calm 5 <| .calm 6 <| .must 7 <| .done) mixed (by kernel_rfl) ?_ | refine WG 0 ?_ | refine WG 5 ?_ | refine WG 6 ?_ | refine WG 7 ?_ | refine WG 9 ?_ | refine WG 10 ?_ | refine WG 11 ?_ | refine WG 12 ?_ | refine WG 13 ?_ | refine WG 14 ?_)
    exact ⟨rfl, _, _, Res0 rfl, .refl _, rfl, Lp3, rfl, fin (by unfold MV.body; rw [if_pos hk]) hM3⟩
  by_cases hk : m.kind = 1
  · have hk1 := hk
    have d0 : (m.kind == 0) = false := by simpa using (show ¬ m.kind = 0 by omega)
    have d1 : (m.kind == 1) = true := by simpa using hk
    repeat (first | refine RQ ?_ | ((first | refine WL_Q ?_ | refine WL_Y ?_); (first | refine QW_of (Qt_nilCheck_m rfl) ?_)) | refine RC ?_ | refine WG 4 ?_ | refine WG 5 ?_ | refine WG 6 ?_ | refine WG 7 ?_ | refine WG 9 ?_ | refine WG 10 ?_ | refine WG 11 ?_ | refine WG 12 ?_ | refine WG 13 ?_ | refine WG 14 ?_)
    refine WC_draw_sub (id := 8) 8 (.calm 0 <| .calm 1 <| .calm 2 <| .calm 3 <| .calm 4 <| .calm 5 <| .calm 6 <| .must 7 <| .done) mixed (by kernel_rfl) (List.nil_sublist _) ?_
    repeat (first | refine RQr ?_ | ((first | refine WL_Q ?_ | refine WL_Y ?_ | refine WR_Q rfl ?_ | refine WR_late rfl rfl rfl (OW_Q ?_) | refine WR_Y rfl ?_); (first | refine QW_of (Qt_nilCheck_m rfl) ?_)) | refine RC ?_ | refine RU ?_ | refine WC_draw_all (id := 8) 8 (.calm 0 <| .calm 1 <| .calm 2 <| .calm 3 <| .calm 4 <| .calm 5 <| .calm 6 <| .must 7 <| .done) mixed (by kernel_rfl) ?_ | refine WG 4 ?_ | refine WG 5 ?_ | refine WG 6 ?_ | refine WG 7 ?_ | refine WG 9 ?_ | refine WG 10 ?_ | refine WG 11 ?_ | refine WG 12 ?_ | refine WG 13 ?_ | refine WG 14 ?_)
    refine WR_op rfl rfl ?_
    refine OW_invE (putM pb T0 n0).mw rfl (FnE.ofFn (Rp := fun _ _ => False) (putF (fs := [.ww]) put_whole hM2 hT (show (bs ++ enc (zz m.kind) ++ enc (zz m.ver)).length + 10 * 1 ≤ 1000000000 by omega) hR (ok1 o2) (one_lies g3) (hfr.sub 8 1 (by decide)))) ?_ (fun _ _ h => h.elim)
    rintro _ _ ⟨rfl, Lp3, rfl, hM3⟩
    refine ⟨(fun q hq => (by cases hq)), ?_⟩
    repeat (first | refine RQr ?_ | ((first | refine WL_Q ?_ | refine WL_Y ?_ | refine WR_Q rfl ?_ | refine WR_late rfl rfl rfl (OW_Q ?_) | refine WR_Y rfl ?_); (first | refine QW_of (Qt_nilCheck_m rfl) ?_)) | refine RC ?_ | refine RU ?_ | refine WC_draw_all (id := 8) 8 (.calm 0 <| .calm 1 <| .calm 2 <| .calm 3 <| .calm 4 <| .calm 5 <| .calm 6 <| .must 7 <| .done) mixed (by kernel_rfl) ?_ | refine WG 0 ?_ | refine WG 5 ?_ | refine WG 6 ?_ | refine WG 7 ?_ | refine WG 9 ?_ | refine WG 10 ?_ | refine WG 11 ?_ | refine WG 12 ?_ | refine WG 13 ?_ | refine WG 14 ?_)
    exact ⟨rfl, _, _, Res0 rfl, .refl _, rfl, Lp3, rfl, fin (by unfold MV.body; rw [if_neg (by omega), if_pos hk]; exact (s1 _).symm) hM3⟩
  by_cases hk : m.kind = 2
  · have hk2 := hk
    have d0 : (m.kind == 0) = false := by simpa using (show ¬ m.kind = 0 by omega)
    have d1 : (m.kind == 1) = false := by simpa using (show ¬ m.kind = 1 by omega)
    have d2 : (m.kind == 2) = true := by simpa using hk
    repeat (first | refine RQr ?_ | ((first | refine WL_Q ?_ | refine WL_Y ?_ | refine WR_Q rfl ?_ | refine WR_late rfl rfl rfl (OW_Q ?_) | refine WR_Y rfl ?_); (first | refine QW_of (Qt_nilCheck_m rfl) ?_)) | refine RC ?_ | refine RU ?_ | refine WC_draw_all (id := 8) 8 (.calm 0 <| .calm 1 <| .calm 2 <| .calm 3 <| .calm 4 <| .calm 5 <| .calm 6 <| .must 7 <| .done) mixed (by kernel_rfl) ?_ | refine WG 4 ?_ | refine WG 5 ?_ | refine WG 6 ?_ | refine WG 7 ?_ | refine WG 9 ?_ | refine WG 10 ?_ | refine WG 11 ?_ | refine WG 12 ?_ | refine WG 13 ?_ | refine WG 14 ?_)
    refine WL_op rfl ?_
    refine OW_callE rfl (FnE.ofFn (Rp := fun _ _ => False) (putF (fs := [.ww]) (small_flat (putM pb T0 n0)) hM2 hT (show (bs ++ enc (zz m.kind) ++ enc (zz m.ver)).length + 10 * 1 ≤ 1000000000 by omega) hR ((ok1 o3)) (one_lies g4) (hfr.sub 9 1 (by decide)))) ?_ (fun _ _ h => h.elim)
    rintro _ _ ⟨rfl, Lp3, rfl, hM3⟩
    repeat (first | refine RQr ?_ | ((first | refine WL_Q ?_ | refine WL_Y ?_ | refine WR_Q rfl ?_ | refine WR_late rfl rfl rfl (OW_Q ?_) | refine WR_Y rfl ?_); (first | refine QW_of (Qt_nilCheck_m rfl) ?_)) | refine RC ?_ | refine RU ?_ | refine WC_draw_all (id := 8) 8 (.calm 0 <| .calm 1 <| .calm 2 <| .calm 3 <| .calm 4 <| .calm 5 <| .calm 6 <| .must 7 <| .done) mixed (by kernel_rfl) ?_ | refine WG 0 ?_ | refine WG 5 ?_ | refine WG 6 ?_ | refine WG 7 ?_ | refine WG 9 ?_ | refine WG 10 ?_ | refine WG 11 ?_ | refine WG 12 ?_ | refine WG 13 ?_ | refine WG 14 ?_)
    exact ⟨rfl, _, _, Res0 rfl, .refl _, rfl, Lp3, rfl, fin (by unfold MV.body; rw [if_neg (by omega), if_neg (by omega), if_pos hk]; exact (s1 _).symm) hM3⟩
  by_cases hk : m.kind = 3
  · have hk3 := hk
    have d0 : (m.kind == 0) = false := by simpa using (show ¬ m.kind = 0 by omega)
    have d1 : (m.kind == 1) = false := by simpa using (show ¬ m.kind = 1 by omega)
    have d2 : (m.kind == 2) = false := by simpa using (show ¬ m.kind = 2 by omega)
    have d3 : (m.kind == 3) = true := by simpa using hk
    repeat (first | refine RQr ?_ | ((first | refine WL_Q ?_ | refine WL_Y ?_ | refine WR_Q rfl ?_ | refine WR_late rfl rfl rfl (OW_Q ?_) | refine WR_Y rfl ?_); (first | refine QW_of (Qt_nilCheck_m rfl) ?_)) | refine RC ?_ | refine RU ?_ | refine WC_draw_all (id := 8) 8 (.calm 0 <| .calm 1 <| .calm 2 <| .calm 3 <| .calm 4 <| .calm 5 <| .calm 6 <| .must 7 <| .done) mixed (by kernel_rfl) ?_ | refine WG 4 ?_ | refine WG 5 ?_ | refine WG 6 ?_ | refine WG 7 ?_ | refine WG 9 ?_ | refine WG 10 ?_ | refine WG 11 ?_ | refine WG 12 ?_ | refine WG 13 ?_ | refine WG 14 ?_)
    refine WL_op rfl ?_
    refine OW_callE rfl (FnE.ofFn (Rp := fun _ _ => False) (pcmd hM2 hT hn (by omega) hR hm.ch hm.ct hm.bins g5 he (hfr.sub 10 10 (by decide)))) ?_ (fun _ _ h => h.elim)
    rintro _ _ ⟨rfl, Lp3, rfl, hM3⟩
    repeat (first | refine RQr ?_ | ((first | refine WL_Q ?_ | refine WL_Y ?_ | refine WR_Q rfl ?_ | refine WR_late rfl rfl rfl (OW_Q ?_) | refine WR_Y rfl ?_); (first | refine QW_of (Qt_nilCheck_m rfl) ?_)) | refine RC ?_ | refine RU ?_ | refine WC_draw_all (id := 8) 8 (.calm 0 <| .calm 1 <| .calm 2 <| .calm 3 <| .calm 4 <| .calm 5 <| .calm 6 <| .must 7 <| .done) mixed (by kernel_rfl) ?_ | refine WG 0 ?_ | refine WG 5 ?_ | refine WG 6 ?_ | refine WG 7 ?_ | refine WG 9 ?_ | refine WG 10 ?_ | refine WG 11 ?_ | refine WG 12 ?_ | refine WG 13 ?_ | refine WG 14 ?_)
    exact ⟨rfl, _, _, Res0 rfl, .refl _, rfl, Lp3, rfl, fin (by unfold MV.body; rw [if_neg (by omega), if_neg (by omega), if_neg (by omega), if_pos hk]) hM3⟩
  by_cases hk : m.kind = 4
  · have hk4 := hk
    have d0 : (m.kind == 0) = false := by simpa using (show ¬ m.kind = 0 by omega)
    have d1 : (m.kind == 1) = false := by simpa using (show ¬ m.kind = 1 by omega)
    have d2 : (m.kind == 2) = false := by simpa using (show ¬ m.kind = 2 by omega)
    have d3 : (m.kind == 3) = false := by simpa using (show ¬ m.kind = 3 by omega)
    have d4 : (m.kind == 4) = true := by simpa using hk
    repeat (first | refine RQr ?_ | ((first | refine WL_Q ?_ | refine WL_Y ?_ | refine WR_Q rfl ?_ | refine WR_late rfl rfl rfl (OW_Q ?_) | refine WR_Y rfl ?_); (first | refine QW_of (Qt_nilCheck_m rfl) ?_)) | refine RC ?_ | refine RU ?_ | refine WC_draw_all (id := 8) 8 (.calm 0 <| .calm 1 <| .calm 2 <| .calm 3 <| .calm 4 <| .calm 5 <| .calm 6 <| .must 7 <| .done) mixed (by kernel_rfl) ?_ | refine WG 4 ?_ | refine WG 5 ?_ | refine WG 6 ?_ | refine WG 7 ?_ | refine WG 9 ?_ | refine WG 10 ?_ | refine WG 11 ?_ | refine WG 12 ?_ | refine WG 13 ?_ | refine WG 14 ?_)
    refine WL_op rfl ?_
    refine OW_callE rfl (FnE.ofFn (Rp := fun _ _ => False) (pchunk hM2 hT hn' (by omega) hR hm.kh hm.ents g6 he' (hfr.sub 20 4 (by decide)))) ?_ (fun _ _ h => h.elim)
    rintro _ _ ⟨rfl, Lp3, rfl, hM3⟩
    repeat (first | refine RQr ?_ | ((first | refine WL_Q ?_ | refine WL_Y ?_ | refine WR_Q rfl ?_ | refine WR_late rfl rfl rfl (OW_Q ?_) | refine WR_Y rfl ?_); (first | refine QW_of (Qt_nilCheck_m rfl) ?_)) | refine RC ?_ | refine RU ?_ | refine WC_draw_all (id := 8) 8 (.calm 0 <| .calm 1 <| .calm 2 <| .calm 3 <| .calm 4 <| .calm 5 <| .calm 6 <| .must 7 <| .done) mixed (by kernel_rfl) ?_ | refine WG 0 ?_ | refine WG 5 ?_ | refine WG 6 ?_ | refine WG 7 ?_ | refine WG 9 ?_ | refine WG 10 ?_ | refine WG 11 ?_ | refine WG 12 ?_ | refine WG 13 ?_ | refine WG 14 ?_)
    exact ⟨rfl, _, _, Res0 rfl, .refl _, rfl, Lp3, rfl, fin (by unfold MV.body; rw [if_neg (by omega), if_neg (by omega), if_neg (by omega), if_neg (by omega), if_pos hk]) hM3⟩
  have d0 : (m.kind == 0) = false := by simpa using (show ¬ m.kind = 0 by omega)
  have d1 : (m.kind == 1) = false := by simpa using (show ¬ m.kind = 1 by omega)
  have d2 : (m.kind == 2) = false := by simpa using (show ¬ m.kind = 2 by omega)
  have d3 : (m.kind == 3) = false := by simpa using (show ¬ m.kind = 3 by omega)
  have d4 : (m.kind == 4) = false := by simpa using (show ¬ m.kind = 4 by omega)
  repeat (first | refine RQr ?_ | ((first | refine WL_Q ?_ | refine WL_Y ?_ | refine WR_Q rfl ?_ | refine WR_late rfl rfl rfl (OW_Q ?_) | refine WR_Y rfl ?_); (first | refine QW_of (Qt_nilCheck_m rfl) ?_)) | refine RC ?_ | refine RU ?_ | refine WC_draw_all (id := 8) 8 (.calm 0 <| .calm 1 <| .calm 2 <| .calm 3 <| .calm 4 <| .calm 5 <| .calm 6 <| .must 7 <| .done) mixed (by kernel_rfl) ?_ | refine WG 4 ?_ | refine WG 5 ?_ | refine WG 6 ?_ | refine WG 7 ?_ | refine WG 9 ?_ | refine WG 10 ?_ | refine WG 11 ?_ | refine WG 12 ?_ | refine WG 13 ?_ | refine WG 14 ?_)
  exact ⟨rfl, _, _, Res0 rfl, .refl _, rfl, Lp2, rfl, fin (x := []) (by unfold MV.body; rw [if_neg (by omega), if_neg (by omega), if_neg (by omega), if_neg (by omega), if_neg (by omega)]) (by rw [List.append_nil]; exact hM2)⟩
end
end Go.Proofs.YtdiaogcogkapgaaGreatDoor
namespace Go.Proofs.YtdiaogcogkapgaaGreatDoor
open Go.RowKit
attribute [local irreducible] Fn WC WL WR OW Qt YieldFn QW FnP FnD FnE
theorem by_T0 {L : List (Nat × Obj)} {v : Value} {bs : List UInt8} (h : ByAt L v bs) : ∃ a cap T0, v = .slice a bs.length cap ∧ bs.length ≤ cap ∧ cap ≤ maxLen ∧ (∀ q ∈ T0, q ∈ L) ∧ ByAt T0 (.slice a bs.length bs.length) bs := by
  obtain ⟨h1, a, cap, rfl, h3, h4, h5⟩ := h
  rcases h5 with h5 | ⟨b, off, cs, E, fr, i, e1, e2, e3⟩
  · refine ⟨a, cap, [], rfl, h3, h4, (fun q hq => (by cases hq)), h1, a, bs.length, rfl, Nat.le_refl _, by omega, .inl h5⟩
  · exact ⟨a, cap, [(b, .cells cs E fr)], rfl, h3, h4, fun q hq => by rw [List.mem_singleton.1 hq]; exact List.mem_of_getElem? e2, h1, a, bs.length, rfl, Nat.le_refl _, by omega, .inr ⟨b, off, cs, E, fr, 0, e1, rfl, e3⟩⟩
theorem Elems.mem {R R' : List (Nat × Obj)} {a : Option Addr} {n : Nat} {vss : List (List Value)} (h : Elems R a n vss) (hs : ∀ q ∈ R, q ∈ R') : Elems R' a n vss := by
  rcases h with h | ⟨be, eo, ie, ec, EE, ef, h1, h2, h3⟩
  · exact .inl h
  · obtain ⟨j, hj⟩ := List.mem_iff_getElem?.1 (hs _ (List.mem_of_getElem? h2))
    exact .inr ⟨be, eo, j, ec, EE, ef, h1, hj, h3⟩
theorem MV.enc_pos (m : MV) : 0 < m.enc.length := by
  have := Go.Proofs.YtdiaogcogkapgaaGreatDoor.enc_pos (zz m.kind)
  unfold MV.enc; rw [List.length_append]; omega
set_option maxHeartbeats 2000000 in
theorem laid_Msg {v : Value} {bs l : List UInt8} {cs : Array Value} {L : List (Nat × Obj)} {fu : FuncId} [FCall Tryz.prog fu] (hb : ByAt L v bs) (hlen : 0 < l.length)
    (hf : ∀ (pb : Nat) (T0 : List (Nat × Obj)) (xb : Nat) (Lp : List (Nat × Obj)), PMem pb T0 bs.length bs Lp → (∀ q ∈ T0, q ∈ ((xb, Obj.cells cs 43 (0, 0)) :: L)) → Fn Tryz.prog fu [putV pb, .pointer (some ⟨xb, 0, none⟩)] (Lp ++ ((xb, Obj.cells cs 43 (0, 0)) :: L)) (fun v L' => v = .tuple #[] ∧ ∃ Lp', L' = Lp' ++ ((xb, Obj.cells cs 43 (0, 0)) :: L) ∧ PMem pb T0 bs.length (bs ++ l) Lp')) :
    Fn Tryz.prog 73 [v, .agg cs, .func (.func fu) #[] #[]] L (fun r L' => LaidAt r L L' (bs ++ l)) := by
  obtain ⟨a, cap, T0, rfl, hc1, hc2, hT, hb0⟩ := by_T0 hb
  refine Fn_enter Tryz.func73 rfl Tryz.ntmps73 rfl fun g => ?_
  repeat (first | refine RQ ?_ | (refine RE ?_; try intro _) | refine RC ?_ | refine WC_region ?_)
  rename_i xb pb
  refine WL_op rfl ?_
  refine OW_callE rfl (FnE.ofFn (Rp := fun _ _ => False) (hf pb T0 xb [(pb, Obj.cells #[.slice a bs.length bs.length] 179 (0, 0))] ⟨_, [], rfl, hb0, .inl ⟨rfl, rfl, a, rfl⟩⟩ (fun q hq => List.mem_cons_of_mem _ (hT q hq)))) ?_ (fun _ _ h => h.elim)
  rintro _ _ ⟨rfl, _, rfl, v', T, rfl, _, hc⟩
  rcases hc with ⟨_, hc, _⟩ | ⟨g', off, cap', cur, rfl, rfl, hown⟩
  · rw [List.length_append] at hc; omega
  repeat (first | refine RQ ?_ | (refine RE ?_; try intro _) | refine RC ?_ | refine WC_region ?_)
  exact ⟨rfl, _, (g', .cells cur 5 (0, 0)) :: L, Res1 rfl (resV_tmp rfl), .cons_cons _ (.cons _ (.cons _ (.refl _))), g', off, cap', cur, rfl, rfl, hown⟩
set_option maxHeartbeats 1000000 in
theorem PMsg_fn {v : Value} {bs : List UInt8} {cs : Array Value} {L : List (Nat × Obj)} {a : Option Addr} {cap : Nat} {a' : Option Addr} {cap' : Nat} {m : MV} (hb : ByAt L v bs) (hz : cs.size = 24) (hm : m.Ok) (hn : m.bins.length ≤ 1000000) (hn' : m.ents.length ≤ 100000) (hl : Lies cs 0 (m.cells a cap a' cap')) (he : Elems L a 1 m.bins) (he' : Elems L a' 10 m.ents) (hroom : bs.length ≤ 900000000) :
    Fn Tryz.prog 55 [v, .agg cs] L (fun r L' => LaidAt r L L' (bs ++ m.enc)) := by
  refine Fn_enter Tryz.func55 rfl Tryz.ntmps55 rfl fun g => ?_
  repeat (first | refine RQ ?_ | (refine RE ?_; try intro _) | refine RC ?_ | refine WC_region ?_)
  rename_i xb
  refine WL_op rfl ?_
  refine OW_callE rfl (FnE.ofFn (Rp := fun _ _ => False) (laid_Msg (l := m.enc) (hb.cons _) (m.enc_pos) fun pb T0 xb2 Lp hM hT => pmsg (i := 0) hM hT hm hn (by omega) (by omega) rfl hl (he.mem fun q hq => List.mem_cons_of_mem _ (List.mem_cons_of_mem _ hq)) (he'.mem fun q hq => List.mem_cons_of_mem _ (List.mem_cons_of_mem _ hq)) (Free.zero _ _))) ?_ (fun _ _ h => h.elim)
  rintro _ _ ⟨g', off, cap', cur, rfl, rfl, hown⟩
  repeat (first | refine RQ ?_ | (refine RE ?_; try intro _) | refine RC ?_ | refine WC_region ?_)
  exact ⟨rfl, _, (g', .cells cur 5 (0, 0)) :: L, Res1 rfl (resV_tmp rfl), .cons_cons _ (.cons _ (.refl _)), g', off, cap', cur, rfl, rfl, hown⟩
end Go.Proofs.YtdiaogcogkapgaaGreatDoor
namespace Go.Proofs.YtdiaogcogkapgaaGreatDoor
open Go.RowKit
attribute [local irreducible] Fn WC WL WR OW Qt YieldFn QW FnP FnD FnE
theorem ok_one {k : Fk} {v : Value} (h : k.ok v) : v.oneCell' = true := by
  cases k with
  | ww => obtain ⟨x, rfl, _⟩ := h; rfl
  | nn => obtain ⟨x, rfl, _⟩ := h; rfl
  | kk => obtain ⟨x, rfl, _⟩ := h; rfl
  | tt => obtain ⟨x, rfl⟩ := h; rfl
  | bb => obtain ⟨x, rfl⟩ := h; rfl
theorem oks_one : ∀ {fs : List Fk} {vs : List Value}, Oks fs vs → ∀ v ∈ vs, v.oneCell' = true
  | [], [], _, v, hv => by cases hv
  | _ :: _, _ :: _, h, v, hv => by
    rcases List.mem_cons.1 hv with rfl | hv
    · exact ok_one h.1
    · exact oks_one h.2 v hv
  | [], _ :: _, h, _, _ => h.elim
  | _ :: _, [], h, _, _ => h.elim
theorem lies_whole {cs : Array Value} {vs : List Value} (hl : Lies cs 0 vs) (hz : cs.size = vs.length) : cs = vs.toArray := by
  apply Array.ext_getElem?
  intro j
  by_cases h : j < vs.length
  · have := hl j _ (List.getElem?_eq_getElem h)
    rw [Nat.zero_add] at this
    rw [this]; simp [h]
  · rw [Array.getElem?_eq_none (by omega), Array.getElem?_eq_none (by simp; omega)]
theorem MV.cells_len {m : MV} (h : m.Ok) (a : Option Addr) (cap : Nat) (a' : Option Addr) (cap' : Nat) : (m.cells a cap a' cap').length = 24 := by
  have l1 := h.rc.len
  have l2 := h.ch.len
  have l3 := h.ct.len
  have l4 := h.kh.len
  simp only [List.length_cons, List.length_nil] at l1 l2 l3 l4
  unfold MV.cells
  simp only [List.length_append, List.length_cons, List.length_nil]
  omega
theorem MV.all_one {m : MV} (h : m.Ok) {cs : Array Value} {a : Option Addr} {cap : Nat} {a' : Option Addr} {cap' : Nat} (hz : cs.size = 24) (hl : Lies cs 0 (m.cells a cap a' cap')) : (cs.toList.all fun v => v.oneCell') = true := by
  rw [lies_whole hl (by rw [MV.cells_len h]; exact hz), List.all_eq_true]
  intro v hv
  have hv : v ∈ m.cells a cap a' cap' := by simpa using hv
  unfold MV.cells at hv
  simp only [List.mem_append, List.mem_cons, List.not_mem_nil, or_false] at hv
  rcases hv with (rfl | rfl) | hv | (rfl | rfl) | (hv | rfl | hv) | hv | rfl
  · rfl
  · rfl
  · exact oks_one h.rc v hv
  · rfl
  · rfl
  · exact oks_one h.ch v hv
  · rfl
  · exact oks_one h.ct v hv
  · exact oks_one h.kh v hv
  · rfl
theorem Elems.cons {R : List (Nat × Obj)} {a : Option Addr} {n : Nat} {vss : List (List Value)} (p : Nat × Obj) (h : Elems R a n vss) : Elems (p :: R) a n vss := h.mem fun _ hq => List.mem_cons_of_mem _ hq
structure MsgAt (L : List (Nat × Obj)) (cs : Array Value) (m : MV) (a : Option Addr) (cap : Nat) (a' : Option Addr) (cap' : Nat) : Prop where
  ok : m.Ok
  size : cs.size = 24
  lies : Lies cs 0 (m.cells a cap a' cap')
  bins : Elems L a 1 m.bins
  ents : Elems L a' 10 m.ents
  c1 : m.bins.length ≤ cap
  c2 : m.ents.length ≤ cap'
  m1 : cap ≤ maxLen
  m2 : cap' ≤ maxLen
theorem MsgAt.cons {L : List (Nat × Obj)} {cs : Array Value} {m : MV} {a : Option Addr} {cap : Nat} {a' : Option Addr} {cap' : Nat} (p : Nat × Obj) (h : MsgAt L cs m a cap a' cap') : MsgAt (p :: L) cs m a cap a' cap' := ⟨h.ok, h.size, h.lies, h.bins.cons p, h.ents.cons p, h.c1, h.c2, h.m1, h.m2⟩
theorem PMsg_at {L : List (Nat × Obj)} {v : Value} {bs : List UInt8} {cs : Array Value} {m : MV} {a : Option Addr} {cap : Nat} {a' : Option Addr} {cap' : Nat} (h : MsgAt L cs m a cap a' cap') (hb : ByAt L v bs) (hn : m.bins.length ≤ 1000000) (hn' : m.ents.length ≤ 100000) (hroom : bs.length ≤ 900000000) : Fn Tryz.prog 55 [v, .agg cs] L (fun r L' => LaidAt r L L' (bs ++ m.enc)) :=
  PMsg_fn hb h.size h.ok hn hn' h.lies h.bins h.ents hroom
theorem MV.enc_len {m : MV} (hm : m.Ok) (hn : m.bins.length ≤ 100000) (hn' : m.ents.length ≤ 100000) : m.enc.length ≤ 100000000 := by
  have f0 := Go.Proofs.YtdiaogcogkapgaaGreatDoor.enc_len (zz_lt hm.kind.1 hm.kind.2)
  have f1 := Go.Proofs.YtdiaogcogkapgaaGreatDoor.enc_len (zz_lt hm.ver.1 hm.ver.2)
  have f2 := Go.Proofs.YtdiaogcogkapgaaGreatDoor.enc_len (zz_lt hm.time.1 hm.time.2)
  have f3 := Go.Proofs.YtdiaogcogkapgaaGreatDoor.enc_len (zz_lt hm.num.1 hm.num.2)
  have e2 := encs_len hm.rc
  have h1 := encs_len hm.ch
  have h2 := encl_len hm.bins (by omega)
  have h3 := encs_len hm.ct
  have h4 := encs_len hm.kh
  have h5 := encl_len hm.ents (by omega)
  rw [show binF.length = 1 from rfl] at h2
  rw [show entryF.length = 10 from rfl] at h5
  simp only [List.length_cons, List.length_nil] at e2 h1 h3 h4
  have hb : m.body.length ≤ 50000000 := by
    unfold MV.body
    split
    · omega
    · split
      · omega
      · split
        · omega
        · split
          · unfold encCmd; rw [List.length_append, List.length_append]; omega
          · split
            · unfold encChunk; rw [List.length_append]; omega
            · simp
  unfold MV.enc
  rw [List.length_append, List.length_append]; omega
end Go.Proofs.YtdiaogcogkapgaaGreatDoor
namespace Go.Proofs.YtdiaogcogkapgaaGreatDoor
open Go.RowKit
attribute [local irreducible] Fn WC WL WR OW Qt YieldFn QW FnP FnD FnE
structure GV where
  life : Int
  chan : Int
  ack : Bool
  seq : Int
  room : Int
  m : MV
def GV.cells (g : GV) (a : Option Addr) (cap : Nat) (a' : Option Addr) (cap' : Nat) : List Value := [.int .i64 g.life, .int .i64 g.chan, .bool g.ack, .int .u64 g.seq, .int .i64 g.room] ++ g.m.cells a cap a' cap'
structure GV.Ok (g : GV) : Prop where
  life : i64r g.life
  chan : i64r g.chan
  s0 : 0 ≤ g.seq
  s1 : g.seq < 18446744073709551616
  room : i64r g.room
  m : g.m.Ok
structure GramAt (L : List (Nat × Obj)) (gs : Array Value) (g : GV) (a : Option Addr) (cap : Nat) (a' : Option Addr) (cap' : Nat) : Prop extends GV.Ok g where
  lit : gs = (g.cells a cap a' cap').toArray
  bins : Elems L a 1 g.m.bins
  ents : Elems L a' 10 g.m.ents
  c1 : g.m.bins.length ≤ cap
  c2 : g.m.ents.length ≤ cap'
  m1 : cap ≤ maxLen
  m2 : cap' ≤ maxLen
theorem GramAt.msg {L : List (Nat × Obj)} {gs : Array Value} {g : GV} {a : Option Addr} {cap : Nat} {a' : Option Addr} {cap' : Nat} (h : GramAt L gs g a cap a' cap') : MsgAt L (g.m.cells a cap a' cap').toArray g.m a cap a' cap' := ⟨h.m, MV.cells_len h.m _ _ _ _, (fun j v h => by rw [Nat.zero_add, List.getElem?_toArray]; exact h), h.bins, h.ents, h.c1, h.c2, h.m1, h.m2⟩
theorem GramAt.one {L : List (Nat × Obj)} {gs : Array Value} {g : GV} {a : Option Addr} {cap : Nat} {a' : Option Addr} {cap' : Nat} (h : GramAt L gs g a cap a' cap') : (gs.toList.all fun v => v.oneCell') = true := by
  have h2 := MV.all_one h.m h.msg.size h.msg.lies
  rw [h.lit]
  show (([_, _, _, _, _] ++ g.m.cells a cap a' cap').all _) = true
  rw [List.all_append]
  have : ((g.m.cells a cap a' cap').all fun v => v.oneCell') = true := h2
  rw [this]; rfl
end Go.Proofs.YtdiaogcogkapgaaGreatDoor
namespace Go.Proofs.YtdiaogcogkapgaaGreatDoor
open Go.RowKit
attribute [local irreducible] Fn WC WL WR OW Qt YieldFn QW FnP FnD FnE
instance : TBuildA Tryz.prog 130 zc130 3 := ⟨fun _ => by kernel_rfl⟩
def inB (n most : Int) : Bool := decide (0 ≤ n) && decide (n ≤ most)
def GV.head (g : GV) : List UInt8 := ((enc g.life.toNat ++ enc g.chan.toNat) ++ encB g.ack) ++ enc g.seq.toNat
def GV.many (g : GV) : Bool := (g.m.kind == 3 && decide (8 < g.m.bins.length)) || (g.m.kind == 4 && decide (64 < g.m.ents.length))
def GV.put (g : GV) : List UInt8 × Nat :=
  if inB g.life 65535 = false then ([], 2) else if inB g.chan 99 = false then ([], 2) else if (g.ack && !inB g.room 16) = true then ([], 2)
  else if g.ack = true then (g.head ++ enc g.room.toNat, 0) else if inB g.m.kind 4 = false then ([], 6) else if g.many = true then ([], 4) else (g.head ++ g.m.enc, 0)
theorem right_fn {n most : Int} {c : Bool} {L : List (Nat × Obj)} : Fn Tryz.prog 52 [.agg #[.int .i64 n, .int .i64 most, .bool c]] L (fun v L' => v = .bool (!c || inB n most) ∧ L' = L) := by
  refine Fn_enter Tryz.func52 rfl Tryz.ntmps52 rfl fun g => ?_
  cases c
  · repeat (first | refine RQ ?_ | ((first | refine WL_Q ?_ | refine WL_Y ?_); (first | refine QW_of (Qt_indexA rfl) ?_ | refine QW_of (Qt_buildA rfl) ?_ | refine QW_of (Qt_ldX rfl) ?_)) | (refine RE ?_; try intro _) | refine RC ?_ | refine WC_region ?_)
    exact ⟨rfl, _, _, Res1 rfl (resV_tmp rfl), .cons _ (.refl _), rfl, rfl⟩
  · by_cases h : 0 ≤ n
    · have d : decide (n ≥ 0) = true := decide_eq_true h
      repeat (first | refine RQ ?_ | ((first | refine WL_Q ?_ | refine WL_Y ?_); (first | refine QW_of (Qt_indexA rfl) ?_ | refine QW_of (Qt_buildA rfl) ?_ | refine QW_of (Qt_ldX rfl) ?_)) | (refine RE ?_; try intro _) | refine RC ?_ | refine WC_region ?_)
      refine ⟨rfl, _, _, Res1 rfl (resV_tmp rfl), .cons _ (.refl _), ?_, rfl⟩
      simp [inB, h]
    · have d : decide (n ≥ 0) = false := decide_eq_false h
      repeat (first | refine RQ ?_ | ((first | refine WL_Q ?_ | refine WL_Y ?_); (first | refine QW_of (Qt_indexA rfl) ?_ | refine QW_of (Qt_buildA rfl) ?_ | refine QW_of (Qt_ldX rfl) ?_)) | (refine RE ?_; try intro _) | refine RC ?_ | refine WC_region ?_)
      refine ⟨rfl, _, _, Res1 rfl (resV_tmp rfl), .cons _ (.refl _), ?_, rfl⟩
      simp [inB, h]
theorem enc_le {n : Nat} (h : n < 18446744073709551616) : (enc n).length ≤ 10 := Go.Proofs.YtdiaogcogkapgaaGreatDoor.enc_len h
set_option maxHeartbeats 16000000 in
set_option maxRecDepth 100000 in
theorem Put_fn {L : List (Nat × Obj)} {gs : Array Value} {g : GV} {a : Option Addr} {cap : Nat} {a' : Option Addr} {cap' : Nat} (h : GramAt L gs g a cap a' cap') (hb : g.m.bins.length ≤ 1000) (he : g.m.ents.length ≤ 1000) :
    Fn Tryz.prog 27 [.agg gs] L (fun v L' => v = .tuple #[.string (bstr g.put.1), .int .i64 (g.put.2 : Nat)] ∧ L' = L) := by
  have h1 := h.c1; have h2 := h.c2; have h3 := h.m1; have h4 := h.m2
  have hlit := h.lit
  have hone := h.one
  have hM := h.msg
  have hl := h.life; have hc := h.chan; have hr := h.room; have hs0 := h.s0; have hs1 := h.s1
  obtain ⟨life, chan, ack, seq, room, ⟨kind, ver, rc, time, num, ch, bins, ct, kh, ents⟩⟩ := g
  have hrc := h.m.rc; have hch := h.m.ch; have hct := h.m.ct; have hkh := h.m.kh
  have hbins := h.m.bins; have hents := h.m.ents
  have hki := h.m.kind; have hve := h.m.ver; have hti := h.m.time; have hnu := h.m.num
  dsimp only at hrc hch hct hkh hbins hents hki hve hti hnu
  have w0 := hrc
  obtain ⟨r0, us, rfl, _, w1⟩ := w0.split
  obtain ⟨r1, us, rfl, _, w2⟩ := w1.split
  obtain ⟨r2, us, rfl, _, w3⟩ := w2.split
  obtain ⟨r3, us, rfl, _, w4⟩ := w3.split
  obtain ⟨r4, us, rfl, _, w5⟩ := w4.split
  obtain ⟨r5, us, rfl, _, w6⟩ := w5.split
  obtain rfl := w6.nil
  have w0 := hch
  obtain ⟨c0, us, rfl, _, w1⟩ := w0.split
  obtain ⟨c1, us, rfl, _, w2⟩ := w1.split
  obtain rfl := w2.nil
  have w0 := hct
  obtain ⟨t0, us, rfl, _, w1⟩ := w0.split
  obtain ⟨t1, us, rfl, _, w2⟩ := w1.split
  obtain ⟨t2, us, rfl, _, w3⟩ := w2.split
  obtain ⟨t3, us, rfl, _, w4⟩ := w3.split
  obtain ⟨t4, us, rfl, _, w5⟩ := w4.split
  obtain ⟨t5, us, rfl, _, w6⟩ := w5.split
  obtain ⟨t6, us, rfl, _, w7⟩ := w6.split
  obtain rfl := w7.nil
  have w0 := hkh
  obtain ⟨k0, us, rfl, _, w1⟩ := w0.split
  obtain ⟨k1, us, rfl, _, w2⟩ := w1.split
  obtain ⟨k2, us, rfl, _, w3⟩ := w2.split
  obtain rfl := w3.nil
  have hlit' : gs = #[.int .i64 life, .int .i64 chan, .bool ack, .int .u64 seq, .int .i64 room, .int .i64 kind, .int .i64 ver, r0, r1, r2, r3, r4, r5, .int .i64 time, .int .i64 num, c0, c1, .slice a bins.length cap, t0, t1, t2, t3, t4, t5, t6, k0, k1, k2, .slice a' ents.length cap'] := hlit
  subst hlit'
  dsimp only at h1 h2 hl hc hr hs0 hs1 hb he
  refine Fn_enter Tryz.func27 rfl Tryz.ntmps27 rfl fun g => ?_
  repeat (first | refine RQ ?_ | (refine WL_Q ?_; (first | refine QW_of (Qt_indexA rfl) ?_ | refine QW_of (Qt_buildA rfl) ?_ | refine QW_of (Qt_ldX rfl) ?_)) | (refine RE ?_; try intro _) | refine RC ?_ | refine WG 0 ?_ | refine WG 1 ?_)
  rename_i x1
  refine WC_unroll 4 (WCn_s ?_)
  have leaf : ∀ {bs : List UInt8} {n : Nat}, (GV.put ⟨life, chan, ack, seq, room, ⟨kind, ver, [r0, r1, r2, r3, r4, r5], time, num, [c0, c1], bins, [t0, t1, t2, t3, t4, t5, t6], [k0, k1, k2], ents⟩⟩) = (bs, n) → (Value.tuple #[.string (bstr bs), .int .i64 (n : Nat)]) = .tuple #[.string (bstr (GV.put ⟨life, chan, ack, seq, room, ⟨kind, ver, [r0, r1, r2, r3, r4, r5], time, num, [c0, c1], bins, [t0, t1, t2, t3, t4, t5, t6], [k0, k1, k2], ents⟩⟩).1), .int .i64 ((GV.put ⟨life, chan, ack, seq, room, ⟨kind, ver, [r0, r1, r2, r3, r4, r5], time, num, [c0, c1], bins, [t0, t1, t2, t3, t4, t5, t6], [k0, k1, k2], ents⟩⟩).2 : Nat)] := fun e => by rw [e]
  cases b1 : inB life 65535
  · have d1 : (!(!true || inB life 65535)) = true := by rw [b1]; rfl
    repeat (first | refine RQ ?_ | (refine WL_Q ?_; (first | refine QW_of (Qt_indexA rfl) ?_ | refine QW_of (Qt_buildA rfl) ?_ | refine QW_of (Qt_ldX rfl) ?_)) | (refine RE ?_; try intro _) | (refine WL_op rfl ?_; (first | refine OW_callP rfl (hF := right_fn) (hk := ?_))) | refine RC ?_ | refine WG 2 ?_ | refine WG 3 ?_ | refine WG 4 ?_ | refine WG 5 ?_)
    exact ⟨rfl, _, L, Res2 rfl (resV_tmp rfl) (resV_tmp rfl), (by repeat (first | exact List.Sublist.refl _ | apply List.Sublist.cons)), leaf (by simp [GV.put, b1]), rfl⟩
  have d1 : (!(!true || inB life 65535)) = false := by rw [b1]; rfl
  cases b2 : inB chan 99
  · have d2 : (!(!true || inB chan 99)) = true := by rw [b2]; rfl
    repeat (first | refine RQ ?_ | (refine WL_Q ?_; (first | refine QW_of (Qt_indexA rfl) ?_ | refine QW_of (Qt_buildA rfl) ?_ | refine QW_of (Qt_ldX rfl) ?_)) | (refine RE ?_; try intro _) | (refine WL_op rfl ?_; (first | refine OW_callP rfl (hF := right_fn) (hk := ?_))) | refine RC ?_ | refine WG 2 ?_ | refine WG 3 ?_ | refine WG 4 ?_ | refine WG 5 ?_ | refine WG 6 ?_)
    exact ⟨rfl, _, L, Res2 rfl (resV_tmp rfl) (resV_tmp rfl), (by repeat (first | exact List.Sublist.refl _ | apply List.Sublist.cons)), leaf (by simp [GV.put, b1, b2]), rfl⟩
  have d2 : (!(!true || inB chan 99)) = false := by rw [b2]; rfl
  cases b3 : (!ack || inB room 16)
  · have d3 : (!(!ack || inB room 16)) = true := by rw [b3]; rfl
    have b3' : (ack && !inB room 16) = true := by cases ack <;> simp_all
    repeat (first | refine RQ ?_ | (refine WL_Q ?_; (first | refine QW_of (Qt_indexA rfl) ?_ | refine QW_of (Qt_buildA rfl) ?_ | refine QW_of (Qt_ldX rfl) ?_)) | (refine RE ?_; try intro _) | (refine WL_op rfl ?_; (first | refine OW_callP rfl (hF := right_fn) (hk := ?_))) | refine RC ?_ | refine WG 2 ?_ | refine WG 3 ?_ | refine WG 4 ?_ | refine WG 5 ?_ | refine WG 6 ?_)
    exact ⟨rfl, _, L, Res2 rfl (resV_tmp rfl) (resV_tmp rfl), (by repeat (first | exact List.Sublist.refl _ | apply List.Sublist.cons)), leaf (by simp [GV.put, b1, b2, b3']), rfl⟩
  have d3 : (!(!ack || inB room 16)) = false := by rw [b3]; rfl
  have b3' : (ack && !inB room 16) = false := by cases ack <;> simp_all
  repeat (first | refine RQ ?_ | (refine WL_Q ?_; (first | refine QW_of (Qt_indexA rfl) ?_ | refine QW_of (Qt_buildA rfl) ?_ | refine QW_of (Qt_ldX rfl) ?_)) | (refine RE ?_; try intro _) | (refine WL_op rfl ?_; (first | refine OW_callP rfl (hF := right_fn) (hk := ?_))) | refine RC ?_ | refine WG 2 ?_ | refine WG 3 ?_ | refine WG 4 ?_ | refine WG 5 ?_ | refine WG 6 ?_)
  refine WC_wk [(1, .pointer (some ⟨x1, 0, none⟩))] ⟨rfl, trivial⟩ ?_
  refine WC_dropL ((x1, Obj.cells #[.int .i64 life, .int .i64 chan, .bool ack, .int .u64 seq, .int .i64 room, .int .i64 kind, .int .i64 ver, r0, r1, r2, r3, r4, r5, .int .i64 time, .int .i64 num, c0, c1, .slice a bins.length cap, t0, t1, t2, t3, t4, t5, t6, k0, k1, k2, .slice a' ents.length cap'] 93 (0, 0)) :: L) (.cons _ (.cons _ (.cons _ (.refl _)))) ?_
  have q1 : 0 ≤ life ∧ life ≤ 65535 := by simpa [inB] using b1
  have q2 : 0 ≤ chan ∧ chan ≤ 99 := by simpa [inB] using b2
  have el : IntKind.u64.wrap life = life := wU64 (by omega) (by omega)
  have ec : IntKind.u64.wrap chan = chan := wU64 (by omega) (by omega)
  have le1 := enc_le (n := (IntKind.u64.wrap life).toNat) (by rw [el]; omega)
  have le2 := enc_le (n := (IntKind.u64.wrap chan).toNat) (by rw [ec]; omega)
  have le3 : (encB ack).length ≤ 10 := by cases ack <;> simp [encB]
  have le4 := enc_le (n := seq.toNat) (by omega)
  have hhead : ([] ++ enc (IntKind.u64.wrap life).toNat ++ enc (IntKind.u64.wrap chan).toNat ++ encB ack ++ enc seq.toNat) = (GV.head ⟨life, chan, ack, seq, room, ⟨kind, ver, [r0, r1, r2, r3, r4, r5], time, num, [c0, c1], bins, [t0, t1, t2, t3, t4, t5, t6], [k0, k1, k2], ents⟩⟩) := by rw [el, ec, List.nil_append]; rfl
  have hlen : (GV.head ⟨life, chan, ack, seq, room, ⟨kind, ver, [r0, r1, r2, r3, r4, r5], time, num, [c0, c1], bins, [t0, t1, t2, t3, t4, t5, t6], [k0, k1, k2], ents⟩⟩).length ≤ 40 := by rw [← hhead]; simp only [List.length_append, List.length_nil]; omega
  have u0 := u64_lo life; have u1 := u64_hi life; have u2 := u64_lo chan; have u3 := u64_hi chan
  repeat (first | refine RQr ?_ | (refine RX ?_; (first | refine QW_of (Qt_indexA rfl) ?_ | refine QW_of (Qt_buildA rfl) ?_ | refine QW_of (Qt_ldX rfl) ?_)) | (refine OX ?_; (first | (refine OW_call rfl (hF := P_fn' (by first | exact ByAt.nil _ | exact own_by0 (by with_reducible assumption)) (by with_reducible assumption) (by with_reducible assumption) (by simp only [List.length_append, List.length_nil]; omega)) (hk := ?_); rintro _ _ ⟨p1, off1, cap1, cur1, rfl, rfl, ho1⟩) | (refine OW_call rfl (hF := PBool_fn (own_by0 (by with_reducible assumption)) (by simp only [List.length_append, List.length_nil]; omega)) (hk := ?_); rintro _ _ ⟨p1, off1, cap1, cur1, rfl, rfl, ho1⟩)); try refine SD ?_) | refine RC ?_ | refine RU ?_ | refine WC_draw_all (id := 7) 15 (.calm 0 <| .calm 1 <| .calm 2 <| .calm 4 <| .calm 5 <| .calm 6 <| .calm 8 <| .calm 9 <| .calm 11 <| .calm 12 <| .must 3 <| .must 7 <| .must 10 <| .must 13 <| .calm 14 <| .done) mixed (by kernel_rfl) ?_)
  rw [hhead] at ho1 ⊢
  obtain ⟨H, hH⟩ : ∃ H, H = GV.head ⟨life, chan, ack, seq, room, ⟨kind, ver, [r0, r1, r2, r3, r4, r5], time, num, [c0, c1], bins, [t0, t1, t2, t3, t4, t5, t6], [k0, k1, k2], ents⟩⟩ := ⟨_, rfl⟩
  rw [← hH] at ho1 hlen ⊢
  have hOH := ho1
  refine WC_wk [(6, .slice (some ⟨p1, off1, none⟩) H.length cap1), (1, .pointer (some ⟨x1, 0, none⟩))] ⟨rfl, rfl, trivial⟩ ?_
  refine WC_dropL ((p1, Obj.cells cur1 5 (0, 0)) :: (x1, Obj.cells #[.int .i64 life, .int .i64 chan, .bool ack, .int .u64 seq, .int .i64 room, .int .i64 kind, .int .i64 ver, r0, r1, r2, r3, r4, r5, .int .i64 time, .int .i64 num, c0, c1, .slice a bins.length cap, t0, t1, t2, t3, t4, t5, t6, k0, k1, k2, .slice a' ents.length cap'] 93 (0, 0)) :: L) (.cons_cons _ (.cons _ (.cons _ (.cons _ (.refl _))))) ?_
  have hx5 : (#[.int .i64 life, .int .i64 chan, .bool ack, .int .u64 seq, .int .i64 room, .int .i64 kind, .int .i64 ver, r0, r1, r2, r3, r4, r5, .int .i64 time, .int .i64 num, c0, c1, .slice a bins.length cap, t0, t1, t2, t3, t4, t5, t6, k0, k1, k2, .slice a' ents.length cap']).extract 5 (5 + 24) = #[.int .i64 kind, .int .i64 ver, r0, r1, r2, r3, r4, r5, .int .i64 time, .int .i64 num, c0, c1, .slice a bins.length cap, t0, t1, t2, t3, t4, t5, t6, k0, k1, k2, .slice a' ents.length cap'] := by kernel_rfl
  have hMM : MsgAt L #[.int .i64 kind, .int .i64 ver, r0, r1, r2, r3, r4, r5, .int .i64 time, .int .i64 num, c0, c1, .slice a bins.length cap, t0, t1, t2, t3, t4, t5, t6, k0, k1, k2, .slice a' ents.length cap'] ⟨kind, ver, [r0, r1, r2, r3, r4, r5], time, num, [c0, c1], bins, [t0, t1, t2, t3, t4, t5, t6], [k0, k1, k2], ents⟩ a cap a' cap' := hM
  have hz5 := hMM.size
  have hone5 := MV.all_one hMM.ok hMM.size hMM.lies
  repeat (first | refine RQ ?_ | (refine WL_Q ?_; (first | refine QW_of (Qt_indexA rfl) ?_ | refine QW_of (Qt_buildA rfl) ?_ | refine QW_of (Qt_ldX rfl) ?_)) | (refine RE ?_; try intro _) | refine RC ?_ | refine WG 8 ?_)
  cases ha : ack
  rotate_left
  · subst ha
    have q3 : 0 ≤ room ∧ room ≤ 16 := by simpa [inB] using b3
    have er : IntKind.u64.wrap room = room := wU64 (by omega) (by omega)
    have v0 := u64_lo room; have v1 := u64_hi room
    have hp : GV.put ⟨life, chan, true, seq, room, ⟨kind, ver, [r0, r1, r2, r3, r4, r5], time, num, [c0, c1], bins, [t0, t1, t2, t3, t4, t5, t6], [k0, k1, k2], ents⟩⟩ = (H ++ enc (IntKind.u64.wrap room).toNat, 0) := by
      rw [er, hH]; simp [GV.put, b1, b2, b3']
    repeat (first | refine RQ ?_ | (refine WL_Q ?_; (first | refine QW_of (Qt_indexA rfl) ?_ | refine QW_of (Qt_buildA rfl) ?_ | refine QW_of (Qt_ldX rfl) ?_)) | (refine WL_op rfl ?_; (first | (refine OW_call rfl (hF := P_fn' (bs := H) ((own_by0 hOH).cons _) (by with_reducible assumption) (by with_reducible assumption) (by omega)) (hk := ?_); rintro _ _ ⟨p2, off2, cap2, cur2, rfl, rfl, ho2⟩))) | refine RC ?_ | refine WG 9 ?_ | refine WG 10 ?_)
    exact ⟨rfl, _, L, Res2 rfl (resV_tmp rfl) (resV_tmp rfl), (by repeat (first | exact List.Sublist.refl _ | apply List.Sublist.cons)), by rw [hp]; rfl, rfl⟩
  subst ha
  have lf : ∀ {bs : List UInt8} {n : Nat}, (GV.put ⟨life, chan, false, seq, room, ⟨kind, ver, [r0, r1, r2, r3, r4, r5], time, num, [c0, c1], bins, [t0, t1, t2, t3, t4, t5, t6], [k0, k1, k2], ents⟩⟩) = (bs, n) → (Value.tuple #[.string (bstr bs), .int .i64 (n : Nat)]) = .tuple #[.string (bstr (GV.put ⟨life, chan, false, seq, room, ⟨kind, ver, [r0, r1, r2, r3, r4, r5], time, num, [c0, c1], bins, [t0, t1, t2, t3, t4, t5, t6], [k0, k1, k2], ents⟩⟩).1), .int .i64 ((GV.put ⟨life, chan, false, seq, room, ⟨kind, ver, [r0, r1, r2, r3, r4, r5], time, num, [c0, c1], bins, [t0, t1, t2, t3, t4, t5, t6], [k0, k1, k2], ents⟩⟩).2 : Nat)] := fun e => by rw [e]
  cases b4 : inB kind 4
  · have d4 : (!(!true || inB kind 4)) = true := by rw [b4]; rfl
    repeat (first | refine RQ ?_ | (refine WL_Q ?_; (first | refine QW_of (Qt_indexA rfl) ?_ | refine QW_of (Qt_buildA rfl) ?_ | refine QW_of (Qt_ldX rfl) ?_)) | (refine WL_op rfl ?_; (first | refine OW_callP rfl (hF := right_fn) (hk := ?_))) | refine RC ?_ | refine WG 9 ?_ | refine WG 11 ?_ | refine WG 12 ?_)
    exact ⟨rfl, _, L, Res2 rfl (resV_tmp rfl) (resV_tmp rfl), (by repeat (first | exact List.Sublist.refl _ | apply List.Sublist.cons)), lf (by simp [GV.put, b1, b2, b4]), rfl⟩
  have d4 : (!(!true || inB kind 4)) = false := by rw [b4]; rfl
  have i5 : inB ((bins.length : Nat) : Int) 8 = !decide (8 < bins.length) := by
    by_cases h : 8 < bins.length <;> simp [inB, h] <;> omega
  have i6 : inB ((ents.length : Nat) : Int) 64 = !decide (64 < ents.length) := by
    by_cases h : 64 < ents.length <;> simp [inB, h] <;> omega
  cases b5 : (!(!(kind == 3) || inB ((bins.length : Nat) : Int) 8))
  rotate_left
  · have hm : GV.many ⟨life, chan, false, seq, room, ⟨kind, ver, [r0, r1, r2, r3, r4, r5], time, num, [c0, c1], bins, [t0, t1, t2, t3, t4, t5, t6], [k0, k1, k2], ents⟩⟩ = true := by
      rw [i5] at b5
      simp only [Bool.not_or, Bool.not_not] at b5
      unfold GV.many
      dsimp only
      rw [b5]; rfl
    repeat (first | refine RQ ?_ | (refine WL_Q ?_; (first | refine QW_of (Qt_indexA rfl) ?_ | refine QW_of (Qt_buildA rfl) ?_ | refine QW_of (Qt_ldX rfl) ?_)) | (refine WL_op rfl ?_; (first | refine OW_callP rfl (hF := right_fn) (hk := ?_))) | refine RC ?_ | refine WG 9 ?_ | refine WG 11 ?_ | refine WG 13 ?_ | refine WG 14 ?_ | refine WG 15 ?_)
    exact ⟨rfl, _, L, Res2 rfl (resV_tmp rfl) (resV_tmp rfl), (by repeat (first | exact List.Sublist.refl _ | apply List.Sublist.cons)), lf (by simp [GV.put, b1, b2, b4, hm]), rfl⟩
  cases b6 : (!(!(kind == 4) || inB ((ents.length : Nat) : Int) 64))
  rotate_left
  · have hm : GV.many ⟨life, chan, false, seq, room, ⟨kind, ver, [r0, r1, r2, r3, r4, r5], time, num, [c0, c1], bins, [t0, t1, t2, t3, t4, t5, t6], [k0, k1, k2], ents⟩⟩ = true := by
      rw [i6] at b6
      simp only [Bool.not_or, Bool.not_not] at b6
      unfold GV.many
      dsimp only
      rw [b6]; simp
    repeat (first | refine RQ ?_ | (refine WL_Q ?_; (first | refine QW_of (Qt_indexA rfl) ?_ | refine QW_of (Qt_buildA rfl) ?_ | refine QW_of (Qt_ldX rfl) ?_)) | (refine WL_op rfl ?_; (first | refine OW_callP rfl (hF := right_fn) (hk := ?_))) | refine RC ?_ | refine WG 9 ?_ | refine WG 11 ?_ | refine WG 13 ?_ | refine WG 14 ?_ | refine WG 15 ?_)
    exact ⟨rfl, _, L, Res2 rfl (resV_tmp rfl) (resV_tmp rfl), (by repeat (first | exact List.Sublist.refl _ | apply List.Sublist.cons)), lf (by simp [GV.put, b1, b2, b4, hm]), rfl⟩
  have hm : GV.many ⟨life, chan, false, seq, room, ⟨kind, ver, [r0, r1, r2, r3, r4, r5], time, num, [c0, c1], bins, [t0, t1, t2, t3, t4, t5, t6], [k0, k1, k2], ents⟩⟩ = false := by
    rw [i5] at b5
    rw [i6] at b6
    simp only [Bool.not_or, Bool.not_not] at b5 b6
    unfold GV.many
    dsimp only
    rw [b5, b6]; rfl
  have n12 : (⟨kind, ver, [r0, r1, r2, r3, r4, r5], time, num, [c0, c1], bins, [t0, t1, t2, t3, t4, t5, t6], [k0, k1, k2], ents⟩ : MV).bins.length ≤ 1000000 := by show bins.length ≤ _; omega
  have n70 : (⟨kind, ver, [r0, r1, r2, r3, r4, r5], time, num, [c0, c1], bins, [t0, t1, t2, t3, t4, t5, t6], [k0, k1, k2], ents⟩ : MV).ents.length ≤ 100000 := by show ents.length ≤ _; omega
  have hH9 : H.length ≤ 900000000 := by omega
  have hp : GV.put ⟨life, chan, false, seq, room, ⟨kind, ver, [r0, r1, r2, r3, r4, r5], time, num, [c0, c1], bins, [t0, t1, t2, t3, t4, t5, t6], [k0, k1, k2], ents⟩⟩ = (H ++ MV.enc ⟨kind, ver, [r0, r1, r2, r3, r4, r5], time, num, [c0, c1], bins, [t0, t1, t2, t3, t4, t5, t6], [k0, k1, k2], ents⟩, 0) := by
    rw [hH]; simp [GV.put, b1, b2, b4, hm]
  repeat (first | refine RQ ?_ | (refine WL_Q ?_; (first | refine QW_of (Qt_indexA rfl) ?_ | refine QW_of (Qt_buildA rfl) ?_ | refine QW_of (Qt_ldX rfl) ?_)) | (refine WL_op rfl ?_; (first | refine OW_callP rfl (hF := right_fn) (hk := ?_) | (refine OW_call rfl (hF := PMsg_at (by repeat (first | with_reducible exact hMM | apply MsgAt.cons)) (bs := H) ((own_by0 hOH).cons _) n12 n70 hH9) (hk := ?_); rintro _ _ ⟨p2, off2, cap2, cur2, rfl, rfl, ho2⟩))) | refine RC ?_ | refine WG 9 ?_ | refine WG 11 ?_ | refine WG 13 ?_ | refine WG 14 ?_ | refine WG 16 ?_)
  exact ⟨rfl, _, L, Res2 rfl (resV_tmp rfl) (resV_tmp rfl), (by repeat (first | exact List.Sublist.refl _ | apply List.Sublist.cons)), by rw [hp]; rfl, rfl⟩
end Go.Proofs.YtdiaogcogkapgaaGreatDoor
namespace Go.Proofs.YtdiaogcogkapgaaGreatDoor
open Go.RowKit
def prU (l : List UInt8) (most a : Nat) : PR Int := if uCode l a = 0 then (if uVal l a ≤ most then .ok (uVal l a : Nat) (uNext l a) else .bad 2 a) else .bad (uCode l a) a
def prT (l : List UInt8) (a : Nat) : PR Bool := if tCode l a = 0 then .ok ((bVal l a).toNat == 1) (a + 1) else .bad (tCode l a) a
def prN (l : List UInt8) (a : Nat) : PR Int := if uCode l a = 0 then .ok (uVal l a : Nat) (uNext l a) else .bad (uCode l a) a
def prTail (l : List UInt8) (life chan : Int) (ack : Bool) (seq : Int) (a : Nat) : PR GV :=
  if ack = true then (prU l 16 a).bind fun room b => .ok ⟨life, chan, true, seq, room, MV.none⟩ b else (prMsg l a).bind fun m b => .ok ⟨life, chan, false, seq, 0, m⟩ b
def prEnd {α : Type} (l : List UInt8) (x : α) (a : Nat) : PR α := if a < l.length then .bad 4 a else .ok x a
def prGram (l : List UInt8) : PR GV :=
  (prU l 65535 0).bind fun life a1 => (prU l 99 a1).bind fun chan a2 => (prT l a2).bind fun ack a3 => (prN l a3).bind fun seq a4 => (prTail l life chan ack seq a4).bind fun g a5 => prEnd l g a5
def GV.bytes (g : GV) : List UInt8 := if g.ack = true then g.head ++ enc g.room.toNat else g.head ++ g.m.enc
structure GV.Lim (g : GV) : Prop where
  l0 : 0 ≤ g.life
  l1 : g.life ≤ 65535
  c0 : 0 ≤ g.chan
  c1 : g.chan ≤ 99
  s0 : 0 ≤ g.seq
  s1 : g.seq < 18446744073709551616
  r0 : 0 ≤ g.room
  r1 : g.room ≤ 16
  yes : g.ack = true → g.m = MV.none
  no : g.ack = false → g.room = 0 ∧ g.m.Lim
theorem GV.Lim.ok {g : GV} (h : g.Lim) : g.Ok := by
  refine ⟨⟨?_, ?_⟩, ⟨?_, ?_⟩, h.s0, h.s1, ⟨?_, ?_⟩, ?_⟩
  any_goals (have := h.l0; have := h.l1; have := h.c0; have := h.c1; have := h.r0; have := h.r1; omega)
  cases ha : g.ack
  · exact (h.no ha).2.ok
  · rw [h.yes ha]; exact MV.none_ok
theorem GV.Lim.put {g : GV} (h : g.Lim) : g.put = (g.bytes, 0) := by
  have b1 : inB g.life 65535 = true := by simp [inB, h.l0, h.l1]
  have b2 : inB g.chan 99 = true := by simp [inB, h.c0, h.c1]
  have b3 : inB g.room 16 = true := by simp [inB, h.r0, h.r1]
  unfold GV.put GV.bytes
  rw [b1, b2, b3]
  cases ha : g.ack
  · have hm := (h.no ha).2
    have b4 : inB g.m.kind 4 = true := by simp [inB, hm.k0, hm.k4]
    have b5 : g.many = false := by
      have := hm.nb
      have := hm.ne
      simp [GV.many, show ¬ (8 < g.m.bins.length) by omega, show ¬ (64 < g.m.ents.length) by omega]
    rw [b4, b5]
    simp
  · simp
theorem prU_went {l : List UInt8} {most a b : Nat} {x : Int} (h : prU l most a = .ok x b) : Went l (0 ≤ x ∧ x ≤ most ∧ x < 18446744073709551616) (enc x.toNat) a b := by
  unfold prU at h
  split at h
  · rename_i hc
    split at h
    · rename_i hm
      cases h
      obtain ⟨h1, h2, h3⟩ := u_went hc
      have := val_lt ((l.drop a).take (cont l a + 1))
      exact ⟨⟨by omega, by omega, by show ((uVal l a : Nat) : Int) < _; unfold uVal; omega⟩, h1, h2, by rw [Int.toNat_natCast, h3]⟩
    · cases h
  · cases h
theorem prN_went {l : List UInt8} {a b : Nat} {x : Int} (h : prN l a = .ok x b) : Went l (0 ≤ x ∧ x < 18446744073709551616) (enc x.toNat) a b := by
  unfold prN at h
  split at h
  · rename_i hc
    cases h
    obtain ⟨h1, h2, h3⟩ := u_went hc
    have := val_lt ((l.drop a).take (cont l a + 1))
    exact ⟨⟨by omega, by show ((uVal l a : Nat) : Int) < _; unfold uVal; omega⟩, h1, h2, by rw [Int.toNat_natCast, h3]⟩
  · cases h
theorem prT_pr {l : List UInt8} {a : Nat} : Fk.pr l a .tt = (prT l a).bind fun x b => .ok (.bool x) b := by
  simp only [Fk.pr, prT]
  split <;> rfl
theorem prT_went {l : List UInt8} {a b : Nat} {x : Bool} (h : prT l a = .ok x b) : Went l True (encB x) a b := by
  have h2 : Fk.pr l a .tt = .ok (.bool x) b := by rw [prT_pr, h]; rfl
  have := pr_went h2
  exact ⟨trivial, this.2⟩
theorem prTail_went {l : List UInt8} {life chan seq : Int} {ack : Bool} {a b : Nat} {g : GV} (h : prTail l life chan ack seq a = .ok g b) (h1 : 0 ≤ life ∧ life ≤ 65535) (h2 : 0 ≤ chan ∧ chan ≤ 99) (h3 : 0 ≤ seq ∧ seq < 18446744073709551616) :
    ∃ t, g.Lim ∧ g.bytes = ((enc life.toNat ++ enc chan.toNat) ++ encB ack ++ enc seq.toNat) ++ t ∧ a ≤ b ∧ b ≤ l.length ∧ t = cut l a b := by
  unfold prTail at h
  split at h
  · rename_i ha
    obtain ⟨x, a', e1, e2⟩ := PR.bind_ok h
    cases e2
    obtain ⟨⟨q0, q1, q2⟩, w1, w2, w3⟩ := prU_went e1
    refine ⟨enc x.toNat, ⟨h1.1, h1.2, h2.1, h2.2, h3.1, h3.2, q0, by simpa using q1, fun _ => rfl, fun q => (by cases q)⟩, ?_, w1, w2, w3⟩
    simp [GV.bytes, GV.head, ha]
  · rename_i ha
    obtain ⟨m, a', e1, e2⟩ := PR.bind_ok h
    cases e2
    obtain ⟨q0, w1, w2, w3⟩ := prMsg_went e1
    refine ⟨m.enc, ⟨h1.1, h1.2, h2.1, h2.2, h3.1, h3.2, Int.le_refl 0, (by show (0 : Int) ≤ 16; decide), fun q => (by cases q), fun _ => ⟨rfl, q0⟩⟩, ?_, w1, w2, w3⟩
    have : ack = false := by simpa using ha
    simp [GV.bytes, GV.head, this]
theorem prGram_went {l : List UInt8} {b : Nat} {g : GV} (h : prGram l = .ok g b) : g.Lim ∧ b = l.length ∧ g.bytes = l := by
  unfold prGram at h
  obtain ⟨life, a1, e1, h⟩ := PR.bind_ok h
  obtain ⟨chan, a2, e2, h⟩ := PR.bind_ok h
  obtain ⟨ack, a3, e3, h⟩ := PR.bind_ok h
  obtain ⟨seq, a4, e4, h⟩ := PR.bind_ok h
  obtain ⟨g', a5, e5, h⟩ := PR.bind_ok h
  obtain ⟨⟨p0, p1, _⟩, l1, m1, c1⟩ := prU_went e1
  obtain ⟨⟨q0, q1, _⟩, l2, m2, c2⟩ := prU_went e2
  obtain ⟨_, l3, m3, c3⟩ := prT_went e3
  obtain ⟨⟨r0, r1⟩, l4, m4, c4⟩ := prN_went e4
  obtain ⟨t, hL, hb, l5, m5, c5⟩ := prTail_went e5 ⟨p0, by simpa using p1⟩ ⟨q0, by simpa using q1⟩ ⟨r0, r1⟩
  unfold prEnd at h
  split at h
  · cases h
  · cases h
    have hbl : b = l.length := by omega
    refine ⟨hL, hbl, ?_⟩
    rw [hb, c1, c2, c3, c4, c5, cut_app l1 l2, cut_app (by omega) l3, cut_app (by omega) l4, cut_app (by omega) l5, hbl]
    unfold cut; simp
theorem enc_prU {most : Nat} {x : Int} (h0 : 0 ≤ x) (h1 : x ≤ most) (h2 : x < 18446744073709551616) (pre post : List UInt8) : prU (pre ++ (enc x.toNat ++ post)) most pre.length = .ok x (pre ++ enc x.toNat).length := by
  obtain ⟨e1, e2, e3⟩ := read_enc (pre := pre) (post := post) (n := x.toNat) (by omega)
  unfold prU
  rw [if_pos e1, e2, e3, if_pos (by omega), Int.toNat_of_nonneg h0]
theorem enc_prN {x : Int} (h0 : 0 ≤ x) (h2 : x < 18446744073709551616) (pre post : List UInt8) : prN (pre ++ (enc x.toNat ++ post)) pre.length = .ok x (pre ++ enc x.toNat).length := by
  obtain ⟨e1, e2, e3⟩ := read_enc (pre := pre) (post := post) (n := x.toNat) (by omega)
  unfold prN
  rw [if_pos e1, e2, e3, Int.toNat_of_nonneg h0]
theorem enc_prT (x : Bool) (pre post : List UInt8) : prT (pre ++ (encB x ++ post)) pre.length = .ok x (pre ++ encB x).length := by
  have h := enc_pr (f := .tt) (v := .bool x) ⟨x, rfl⟩ pre post
  rw [show Fk.enc .tt (.bool x) = encB x from rfl, prT_pr] at h
  obtain ⟨y, b, e1, e2⟩ := PR.bind_ok h
  cases e2
  exact e1
theorem enc_prGram {g : GV} (h : g.Lim) (post : List UInt8) : prGram (g.bytes ++ post) = if 0 < post.length then .bad 4 g.bytes.length else .ok g g.bytes.length := by
  have key : ∀ t : List UInt8, g.bytes = g.head ++ t → (∀ post, prTail (g.head ++ (t ++ post)) g.life g.chan g.ack g.seq g.head.length = .ok g (g.head ++ t).length) → prGram (g.bytes ++ post) = if 0 < post.length then .bad 4 g.bytes.length else .ok g g.bytes.length := by
    intro t hb ht
    have f1 := enc_prU (most := 65535) h.l0 (by simpa using h.l1) (by have := h.l1; omega) [] (enc g.chan.toNat ++ (encB g.ack ++ (enc g.seq.toNat ++ (t ++ post))))
    have f2 := enc_prU (most := 99) h.c0 (by simpa using h.c1) (by have := h.c1; omega) (enc g.life.toNat) (encB g.ack ++ (enc g.seq.toNat ++ (t ++ post)))
    have f3 := enc_prT g.ack (enc g.life.toNat ++ enc g.chan.toNat) (enc g.seq.toNat ++ (t ++ post))
    have f4 := enc_prN h.s0 h.s1 (enc g.life.toNat ++ enc g.chan.toNat ++ encB g.ack) (t ++ post)
    have f5 := ht post
    have eq : g.bytes ++ post = enc g.life.toNat ++ (enc g.chan.toNat ++ (encB g.ack ++ (enc g.seq.toNat ++ (t ++ post)))) := by
      rw [hb]; simp only [GV.head, List.append_assoc]
    have hlen : (g.head ++ t).length = g.bytes.length := by rw [hb]
    simp only [List.nil_append, List.length_nil] at f1
    simp only [GV.head, List.append_assoc] at f1 f2 f3 f4 f5 hlen
    unfold prGram
    rw [eq, f1]
    simp only [PR.bind]
    rw [f2]
    simp only
    rw [f3]
    simp only
    rw [f4]
    simp only
    rw [f5]
    simp only
    rw [hlen]
    unfold prEnd
    have e2 : (enc g.life.toNat ++ (enc g.chan.toNat ++ (encB g.ack ++ (enc g.seq.toNat ++ (t ++ post))))).length = g.bytes.length + post.length := by rw [← eq, List.length_append]
    rw [e2]
    by_cases hp : 0 < post.length
    · rw [if_pos (by omega), if_pos hp]
    · rw [if_neg (by omega), if_neg hp]
  cases ha : g.ack
  · obtain ⟨hr, hm⟩ := h.no ha
    refine key g.m.enc (by unfold GV.bytes; rw [ha]; rfl) fun post => ?_
    unfold prTail
    rw [ha, if_neg (by decide), enc_prMsg hm]
    simp only [PR.bind]
    congr 1
    obtain ⟨life, chan, ack, seq, room, m⟩ := g
    dsimp only at ha hr ⊢
    rw [ha, hr]
  · refine key (enc g.room.toNat) (by unfold GV.bytes; rw [if_pos ha]) fun post => ?_
    unfold prTail
    rw [ha, if_pos rfl, enc_prU h.r0 (by simpa using h.r1) (by have := h.r1; omega)]
    simp only [PR.bind]
    congr 1
    have hm := h.yes ha
    obtain ⟨life, chan, ack, seq, room, m⟩ := g
    dsimp only at ha hm ⊢
    rw [ha, hm]
theorem enc_prGram0 {g : GV} (h : g.Lim) : prGram g.bytes = .ok g g.bytes.length := by
  have := enc_prGram h []
  rwa [List.append_nil, if_neg (by simp)] at this
theorem GV.bytes_pos (g : GV) : 0 < g.bytes.length := by
  have h1 : 0 < (encB g.ack).length := by cases g.ack <;> simp [encB]
  unfold GV.bytes GV.head
  split <;> simp only [List.length_append] <;> omega
end Go.Proofs.YtdiaogcogkapgaaGreatDoor
namespace Go.Proofs.YtdiaogcogkapgaaGreatDoor
open Go.RowKit
def idxL : Nat → List Value → List (Nat × Value)
  | _, [] => []
  | k, x :: r => (k, x) :: idxL (k + 1) r
theorem fill_idx {n : Nat} : ∀ (xs : List Value) (k : Nat) (pre z : List Value), pre.length = k * n → z.length = xs.length * n → (∀ x ∈ xs, x.cells.size = n) →
    FilledA n (pre ++ z).toArray (idxL k xs) (pre ++ xs.flatMap fun x => x.cells.toList).toArray
  | [], k, pre, z, _, hz, _ => by
    have : z = [] := List.length_eq_zero_iff.1 (by simpa using hz)
    subst this
    show _ = _
    simp
  | x :: r, k, pre, z, hp, hz, hx => by
    have h1 := hx x (by simp)
    have h2 : z.length = r.length * n + n := by rw [hz, List.length_cons, Nat.succ_mul]
    refine ⟨h1, by rw [List.size_toArray, List.length_append]; omega, ?_⟩
    have ih := fill_idx (n := n) r (k + 1) (pre ++ x.cells.toList) (z.drop n) (by rw [List.length_append, hp, Nat.succ_mul, Array.length_toList, h1]) (by rw [List.length_drop]; omega) (fun y hy => hx y (by simp [hy]))
    have e : putR (pre ++ z).toArray (k * n) x.cells = ((pre ++ x.cells.toList) ++ z.drop n).toArray := by
      unfold putR
      rw [← hp, h1]
      simp only [List.take_left, List.drop_append, List.append_assoc]
      rw [List.drop_eq_nil_of_le (by omega), List.nil_append]
      congr 4
      omega
    rw [e]
    simpa using ih
theorem OW_buildS {c : Cx} {o : Oper} {Kn : St → Prop} {K : Exit → St → Prop} {s : List (Nat × Value)} {D : List Deferred} {L : List (Nat × Obj)} {t E n m by_ d : Nat} {z : Array Value} {parts : Array (Nat × Operand)} {xs : List Value} [hu : TUnd c.P t (.slice E)] [hrow : TRow c.P E z n by_] (ho : o.op = .buildSlice t m parts) (_hv : evs s (parts.toList.map fun q => q.2) = some xs := by exact rfl) (hx : evp s parts.toList = some (idxL 0 xs) := by exact rfl) (hm : xs.length = m := by exact rfl)
    (hk : ∀ b, Kn ⟨(d, .slice (some ⟨b, 0, none⟩) m m) :: s, D, (b, .cells (xs.flatMap fun x => x.cells.toList).toArray E) :: L⟩) (hc0 : (xs.all fun x => x.cells.size == n) = true := by exact rfl) (hn0 : Nat.ble 1 (m * n) = true := by exact rfl) (hn1 : Nat.ble (m * n) 16777216 = true := by exact rfl) (hdst : o.dst = some d := by exact rfl) (hd : Nat.blt d c.N = true := by exact rfl) : OW c o Kn K ⟨s, D, L⟩ := fun a w ha => by
  have hc : ∀ x ∈ xs, x.cells.size = n := fun x hx => by simpa using List.all_eq_true.1 hc0 x hx
  refine ⟨fun _ _ => trivial, ?_⟩
  obtain ⟨i, zz, h1, h2, h3, h4, h5, h6⟩ := hrow.h
  have hn0 := Nat.le_of_ble_eq_true hn0
  have hn1 := Nat.le_of_ble_eq_true hn1
  have hb := run_buildSlice (P := c.P) w t E m (parts.map fun (i, x) => (i, a.eval x)) (xs.flatMap fun x => x.cells.toList).toArray i zz hu.h h1 h2 (by rw [h4]; omega) (by rw [h4]; omega) (by
    rw [h4, Array.toList_map, evp_map (fun x u hu => ha.ev hu) hx]
    generalize hAe : (Array.range (m * n)).map (zz.cells[· % zz.cells.size]!) = A
    have hA : A.size = m * n := by rw [← hAe]; simp
    have hf := fill_of_FilledA (fill_idx (n := n) xs 0 [] A.toList (by simp) (by rw [Array.length_toList, hA, hm]) hc)
    rw [List.nil_append, List.nil_append, Array.toArray_toList] at hf
    exact hf)
  have hr : (execOp a.eval o).run c.P w = .ok (.value (.slice (some ⟨w.heap.size, 0, none⟩) m m)) (w.alloc (.cells (xs.flatMap fun x => x.cells.toList).toArray E)) := by
    simp [execOp, ho, hb]
  rw [Oper.semAt_eq _ _ _ (by rw [ho]; intro cc h; cases h), hr]
  refine ⟨_, ?_, hk w.heap.size⟩
  rw [hdst]
  exact (ha.mem' (ha.mem.alloc _)).put (d := some d) hd _
end Go.Proofs.YtdiaogcogkapgaaGreatDoor
namespace Go.Proofs.YtdiaogcogkapgaaGreatDoor
open Go.RowKit
attribute [local irreducible] Fn WC WL WR OW Qt YieldFn QW FnP FnD FnE
theorem Qt_typeAssertN {c : Cx} {s : List (Nat × Value)} {L : List (Nat × Obj)} {o : Oper} {t u e : TypeId} {z : Value} [hu : TUnd c.P t (.pointer e)] [hz : TZero c.P t z] {x : Operand} (ho : o.op = .typeAssert x u t true) (hx : ev s x = some .nilIface := by exact rfl) : Qt c s L o (.tuple #[z, .bool false]) :=
  Qt_of_run (by simp [ho]) (fun ρ hρ w _ => by
    have h1 := hz.h w
    simp [execOp, ho, hρ x _ hx, Instr.typeAssert, run_underlying hu.h, h1])
abbrev gtO (rb a : Nat) : Obj := .cells #[.pointer (some ⟨rb, 0, none⟩), .int .i64 (a : Nat)] 254 (0, 0)
def GMem (gb rb : Nat) (l : List UInt8) (s : Nat × Nat) (Lp : List (Nat × Obj)) : Prop := Lp = [(rb, rdO l s.1), (gb, gtO rb s.2)] ∧ s.1 ≤ l.length
def stpAt : Fk → Nat × Nat → Nat
  | .kk, s => s.1
  | _, s => s.2
def getStp (l : List UInt8) (k : Fk) (s : Nat × Nat) : RW (Nat × Nat) := match Fk.pr l s.1 k with
  | .ok x b => .ok (b, stpAt k s) x
  | .bad c a => .bad c a
theorem getStp_ok {l : List UInt8} {k : Fk} {s s' : Nat × Nat} {x : Value} (h : getStp l k s = .ok s' x) : Fk.pr l s.1 k = .ok x s'.1 := by
  unfold getStp at h
  split at h
  · rename_i h1; cases h; exact h1
  · cases h
def getW (gb rb : Nat) (l : List UInt8) : Wy Tryz.prog where
  S := Nat × Nat
  t := 252
  v := .pointer (some ⟨gb, 0, none⟩)
  T0 := []
  mem := GMem gb rb l
  room := fun _ _ => True
  stp := fun k s _ => getStp l k s
  hr := fun s => (s.1, s.1)
  mst := fun b code s => if b then none else some (code, s.2)
  keeps := .inl rfl
  stp_ok := fun h _ => (pr_went (getStp_ok h)).1
  hr_room := fun h => h
  key_ok := fun {s x s' y} _ _ h hm => by
    unfold getStp at h
    simp only [Fk.pr] at h
    by_cases hc : uCode l s.1 = 0
    · rw [if_pos hc] at h
      simp only [RW.ok.injEq, Value.int.injEq, true_and] at h
      obtain ⟨h1, h2⟩ := h
      have hy : y ≤ 4294967295 := by
        rcases Decidable.em (y ≤ 4294967295) with h3 | h3
        · exact h3
        · simp only [decide_eq_false h3] at hm; cases hm
      refine ⟨?_, by omega⟩
      unfold getStp
      simp only [Fk.pr]
      rw [if_pos hc, if_pos (by omega)]
      simp only [RW.ok.injEq, Value.int.injEq, true_and]
      exact ⟨h1, h2⟩
    · rw [if_neg hc] at h; cases h
  key_bad := fun {s x c a} h => by
    unfold getStp at h ⊢
    simp only [Fk.pr] at h ⊢
    by_cases hc : uCode l s.1 = 0
    · rw [if_pos hc] at h; cases h
    · rw [if_neg hc] at h ⊢; exact h
  key_must := fun {s x s' y c a} h hm => by
    unfold getStp at h ⊢
    simp only [Fk.pr] at h ⊢
    by_cases hc : uCode l s.1 = 0
    · rw [if_pos hc] at h ⊢
      simp only [RW.ok.injEq, Value.int.injEq, true_and] at h
      obtain ⟨h1, h2⟩ := h
      have hy : ¬ y ≤ 4294967295 := fun h3 => by simp only [decide_eq_true h3, if_true] at hm; cases hm
      rw [if_neg (by omega)]
      simp only [decide_eq_false hy] at hm
      simp only [Bool.false_eq_true, if_false, Option.some.injEq, Prod.mk.injEq] at hm
      obtain ⟨rfl, rfl⟩ := hm
      subst h1
      rfl
    · rw [if_neg hc] at h; cases h
  stp_room := fun _ _ _ => trivial
  room_le := fun _ _ => trivial
theorem taken_int64 {x : Value} {L : List (Nat × Obj)} : Fn Tryz.prog 189 [x, .nilIface] L (fun v L' => v = x ∧ L' = L) := by
  refine Fn_enter Tryz.func189 rfl Tryz.ntmps189 rfl fun g => ?_
  repeat (first | refine RQ ?_ | (refine WL_Q ?_; (first | refine QW_of (Qt_typeAssertN rfl) ?_)) | refine RC ?_ | refine WC_region ?_)
  exact ⟨rfl, _, _, Res1 rfl (resV_tmp rfl), .refl _, rfl, rfl⟩
theorem taken_int64_no {x : Value} {p : Nat} {L : List (Nat × Obj)} : FnP Tryz.prog 189 [x, flt p] L (fun v L' => v = flt p ∧ L' = L) := by
  refine FnP_enter Tryz.func189 rfl Tryz.ntmps189 rfl fun g => ?_
  repeat (first | refine RQ ?_ | (refine WL_Q ?_; (first | refine QW_of (Qt_typeAssertN rfl) ?_)) | refine RC ?_ | refine WC_region ?_)
  refine WL_op rfl (OW_panic (σ := ⟨_, _, _⟩) rfl rfl ?_)
  exact ⟨_, rfl, rfl, rfl⟩
theorem taken_uint64 {x : Value} {L : List (Nat × Obj)} : Fn Tryz.prog 185 [x, .nilIface] L (fun v L' => v = x ∧ L' = L) := by
  refine Fn_enter Tryz.func185 rfl Tryz.ntmps185 rfl fun g => ?_
  repeat (first | refine RQ ?_ | (refine WL_Q ?_; (first | refine QW_of (Qt_typeAssertN rfl) ?_)) | refine RC ?_ | refine WC_region ?_)
  exact ⟨rfl, _, _, Res1 rfl (resV_tmp rfl), .refl _, rfl, rfl⟩
theorem taken_uint64_no {x : Value} {p : Nat} {L : List (Nat × Obj)} : FnP Tryz.prog 185 [x, flt p] L (fun v L' => v = flt p ∧ L' = L) := by
  refine FnP_enter Tryz.func185 rfl Tryz.ntmps185 rfl fun g => ?_
  repeat (first | refine RQ ?_ | (refine WL_Q ?_; (first | refine QW_of (Qt_typeAssertN rfl) ?_)) | refine RC ?_ | refine WC_region ?_)
  refine WL_op rfl (OW_panic (σ := ⟨_, _, _⟩) rfl rfl ?_)
  exact ⟨_, rfl, rfl, rfl⟩
theorem taken_bool {x : Value} {L : List (Nat × Obj)} : Fn Tryz.prog 188 [x, .nilIface] L (fun v L' => v = x ∧ L' = L) := by
  refine Fn_enter Tryz.func188 rfl Tryz.ntmps188 rfl fun g => ?_
  repeat (first | refine RQ ?_ | (refine WL_Q ?_; (first | refine QW_of (Qt_typeAssertN rfl) ?_)) | refine RC ?_ | refine WC_region ?_)
  exact ⟨rfl, _, _, Res1 rfl (resV_tmp rfl), .refl _, rfl, rfl⟩
theorem taken_bool_no {x : Value} {p : Nat} {L : List (Nat × Obj)} : FnP Tryz.prog 188 [x, flt p] L (fun v L' => v = flt p ∧ L' = L) := by
  refine FnP_enter Tryz.func188 rfl Tryz.ntmps188 rfl fun g => ?_
  repeat (first | refine RQ ?_ | (refine WL_Q ?_; (first | refine QW_of (Qt_typeAssertN rfl) ?_)) | refine RC ?_ | refine WC_region ?_)
  refine WL_op rfl (OW_panic (σ := ⟨_, _, _⟩) rfl rfl ?_)
  exact ⟨_, rfl, rfl, rfl⟩
theorem taken_byte {x : Value} {L : List (Nat × Obj)} : Fn Tryz.prog 186 [x, .nilIface] L (fun v L' => v = x ∧ L' = L) := by
  refine Fn_enter Tryz.func186 rfl Tryz.ntmps186 rfl fun g => ?_
  repeat (first | refine RQ ?_ | (refine WL_Q ?_; (first | refine QW_of (Qt_typeAssertN rfl) ?_)) | refine RC ?_ | refine WC_region ?_)
  exact ⟨rfl, _, _, Res1 rfl (resV_tmp rfl), .refl _, rfl, rfl⟩
theorem taken_byte_no {x : Value} {p : Nat} {L : List (Nat × Obj)} : FnP Tryz.prog 186 [x, flt p] L (fun v L' => v = flt p ∧ L' = L) := by
  refine FnP_enter Tryz.func186 rfl Tryz.ntmps186 rfl fun g => ?_
  repeat (first | refine RQ ?_ | (refine WL_Q ?_; (first | refine QW_of (Qt_typeAssertN rfl) ?_)) | refine RC ?_ | refine WC_region ?_)
  refine WL_op rfl (OW_panic (σ := ⟨_, _, _⟩) rfl rfl ?_)
  exact ⟨_, rfl, rfl, rfl⟩
section
variable {gb rb : Nat} {l : List UInt8} (hl9 : l.length ≤ 1000000000)
include hl9
set_option maxHeartbeats 1000000 in
theorem get_whole : Flat (getW gb rb l) 184 (.pointer (some ⟨gb, 0, none⟩)) [.ww] := by
  rintro (s : Nat × Nat) _ R i b cs E fr off vs ⟨rfl, ha⟩ hT _ hR hv hl hfr
  obtain ⟨x0, us, rfl, hx, hv'⟩ := hv.split
  obtain rfl := hv'.nil
  have hc := hl.cons.1
  have hz : off < cs.size := (Array.getElem?_eq_some_iff.1 hc).1
  refine FnE_enter Tryz.func184 rfl Tryz.ntmps184 rfl fun g => ?_
  repeat (first | refine RQ ?_ | (refine WL_Q ?_; (first | refine QW_of (Qt_typeAssertN rfl) ?_)) | (refine RE ?_; try intro _) | refine RC ?_ | refine WC_region ?_)
  refine WL_op rfl (OW_call rfl (hF := I_fn ha hl9 _) (hk := ?_))
  rintro _ _ (⟨h0, rfl, rfl⟩ | ⟨h0, p, rfl, rfl⟩)
  · have hs : getStp l .ww s = .ok (uNext l s.1, s.2) (.int .i64 (whole (uVal l s.1))) := by unfold getStp; simp only [Fk.pr]; rw [if_pos h0]; rfl
    repeat (first | refine RQ ?_ | (refine WL_Q ?_; (first | refine QW_of (Qt_typeAssertN rfl) ?_)) | (refine RE ?_; try intro _) | refine RC ?_ | refine WC_region ?_)
    refine WL_op rfl (OW_callP rfl (hF := taken_int64) (hk := ?_))
    repeat (first | refine RQ ?_ | (refine WL_Q ?_; (first | refine QW_of (Qt_typeAssertN rfl) ?_)) | (refine RE ?_; try intro _) | refine RC ?_ | refine WC_region ?_)
    have hX : ((rb, rdO l (uNext l s.1)) :: (gb, gtO rb s.2) :: R)[i + 2]? = some (b, .cells cs E fr) := hR
    refine WL_op rfl (OW_store1F (v := .int .i64 (whole (uVal l s.1))) rfl _ hX hz (hfr.sub 0 1 (Nat.le_refl _)) (WL_nil ?_))
    refine ⟨.tuple #[], _, Res0 rfl, .refl _, rfl, (uNext l s.1, s.2), [.int .i64 (whole (uVal l s.1))], [(rb, rdO l (uNext l s.1)), (gb, gtO rb s.2)], cs.setIfInBounds off (.int .i64 (whole (uVal l s.1))), (getW gb rb l).stps1_ok hs, rfl, ⟨rfl, ?_⟩, Upd.one _ hz, fun q hq => by cases hq⟩
    exact (pr_went (getStp_ok hs)).2.2.1
  · have hs : getStp l .ww s = .bad (uCode l s.1) s.1 := by unfold getStp; simp only [Fk.pr]; rw [if_neg h0]
    repeat (first | refine RQ ?_ | (refine WL_Q ?_; (first | refine QW_of (Qt_typeAssertN rfl) ?_)) | (refine RE ?_; try intro _) | refine RC ?_ | refine WC_region ?_)
    refine WL_op rfl (OW_pan rfl taken_int64_no fun v L' h => ?_)
    obtain ⟨rfl, rfl⟩ := h
    exact ⟨_, rfl, uCode l s.1, s.1, p, s, [(rb, rdO l s.1), (gb, gtO rb s.2)], cs, (getW gb rb l).stps1_bad hs, rfl, by rw [set_same hR]; rfl, ⟨rfl, ha⟩, rfl⟩
set_option maxHeartbeats 1000000 in
theorem get_number : Flat (getW gb rb l) 181 (.pointer (some ⟨gb, 0, none⟩)) [.nn] := by
  rintro (s : Nat × Nat) _ R i b cs E fr off vs ⟨rfl, ha⟩ hT _ hR hv hl hfr
  obtain ⟨x0, us, rfl, hx, hv'⟩ := hv.split
  obtain rfl := hv'.nil
  have hc := hl.cons.1
  have hz : off < cs.size := (Array.getElem?_eq_some_iff.1 hc).1
  refine FnE_enter Tryz.func181 rfl Tryz.ntmps181 rfl fun g => ?_
  repeat (first | refine RQ ?_ | (refine WL_Q ?_; (first | refine QW_of (Qt_typeAssertN rfl) ?_)) | (refine RE ?_; try intro _) | refine RC ?_ | refine WC_region ?_)
  refine WL_op rfl (OW_call rfl (hF := U_fn ha hl9 _) (hk := ?_))
  rintro _ _ (⟨h0, rfl, rfl⟩ | ⟨h0, p, rfl, rfl⟩)
  · have hs : getStp l .nn s = .ok (uNext l s.1, s.2) (.int .u64 (uVal l s.1)) := by unfold getStp; simp only [Fk.pr]; rw [if_pos h0]; rfl
    repeat (first | refine RQ ?_ | (refine WL_Q ?_; (first | refine QW_of (Qt_typeAssertN rfl) ?_)) | (refine RE ?_; try intro _) | refine RC ?_ | refine WC_region ?_)
    refine WL_op rfl (OW_callP rfl (hF := taken_uint64) (hk := ?_))
    repeat (first | refine RQ ?_ | (refine WL_Q ?_; (first | refine QW_of (Qt_typeAssertN rfl) ?_)) | (refine RE ?_; try intro _) | refine RC ?_ | refine WC_region ?_)
    have hX : ((rb, rdO l (uNext l s.1)) :: (gb, gtO rb s.2) :: R)[i + 2]? = some (b, .cells cs E fr) := hR
    refine WL_op rfl (OW_store1F (v := .int .u64 (uVal l s.1)) rfl _ hX hz (hfr.sub 0 1 (Nat.le_refl _)) (WL_nil ?_))
    refine ⟨.tuple #[], _, Res0 rfl, .refl _, rfl, (uNext l s.1, s.2), [.int .u64 (uVal l s.1)], [(rb, rdO l (uNext l s.1)), (gb, gtO rb s.2)], cs.setIfInBounds off (.int .u64 (uVal l s.1)), (getW gb rb l).stps1_ok hs, rfl, ⟨rfl, ?_⟩, Upd.one _ hz, fun q hq => by cases hq⟩
    exact (pr_went (getStp_ok hs)).2.2.1
  · have hs : getStp l .nn s = .bad (uCode l s.1) s.1 := by unfold getStp; simp only [Fk.pr]; rw [if_neg h0]
    repeat (first | refine RQ ?_ | (refine WL_Q ?_; (first | refine QW_of (Qt_typeAssertN rfl) ?_)) | (refine RE ?_; try intro _) | refine RC ?_ | refine WC_region ?_)
    refine WL_op rfl (OW_pan rfl taken_uint64_no fun v L' h => ?_)
    obtain ⟨rfl, rfl⟩ := h
    exact ⟨_, rfl, uCode l s.1, s.1, p, s, [(rb, rdO l s.1), (gb, gtO rb s.2)], cs, (getW gb rb l).stps1_bad hs, rfl, by rw [set_same hR]; rfl, ⟨rfl, ha⟩, rfl⟩
set_option maxHeartbeats 1000000 in
theorem get_truth : Flat (getW gb rb l) 183 (.pointer (some ⟨gb, 0, none⟩)) [.tt] := by
  rintro (s : Nat × Nat) _ R i b cs E fr off vs ⟨rfl, ha⟩ hT _ hR hv hl hfr
  obtain ⟨x0, us, rfl, hx, hv'⟩ := hv.split
  obtain rfl := hv'.nil
  have hc := hl.cons.1
  have hz : off < cs.size := (Array.getElem?_eq_some_iff.1 hc).1
  refine FnE_enter Tryz.func183 rfl Tryz.ntmps183 rfl fun g => ?_
  repeat (first | refine RQ ?_ | (refine WL_Q ?_; (first | refine QW_of (Qt_typeAssertN rfl) ?_)) | (refine RE ?_; try intro _) | refine RC ?_ | refine WC_region ?_)
  refine WL_op rfl (OW_call rfl (hF := Bool_fn ha hl9 _) (hk := ?_))
  rintro _ _ (⟨h0, rfl, rfl⟩ | ⟨h0, p, rfl, rfl⟩)
  · have hs : getStp l .tt s = .ok (s.1 + 1, s.2) (.bool ((bVal l s.1).toNat == 1)) := by unfold getStp; simp only [Fk.pr]; rw [if_pos h0]; rfl
    repeat (first | refine RQ ?_ | (refine WL_Q ?_; (first | refine QW_of (Qt_typeAssertN rfl) ?_)) | (refine RE ?_; try intro _) | refine RC ?_ | refine WC_region ?_)
    refine WL_op rfl (OW_callP rfl (hF := taken_bool) (hk := ?_))
    repeat (first | refine RQ ?_ | (refine WL_Q ?_; (first | refine QW_of (Qt_typeAssertN rfl) ?_)) | (refine RE ?_; try intro _) | refine RC ?_ | refine WC_region ?_)
    have hX : ((rb, rdO l (s.1 + 1)) :: (gb, gtO rb s.2) :: R)[i + 2]? = some (b, .cells cs E fr) := hR
    refine WL_op rfl (OW_store1F (v := .bool ((bVal l s.1).toNat == 1)) rfl _ hX hz (hfr.sub 0 1 (Nat.le_refl _)) (WL_nil ?_))
    refine ⟨.tuple #[], _, Res0 rfl, .refl _, rfl, (s.1 + 1, s.2), [.bool ((bVal l s.1).toNat == 1)], [(rb, rdO l (s.1 + 1)), (gb, gtO rb s.2)], cs.setIfInBounds off (.bool ((bVal l s.1).toNat == 1)), (getW gb rb l).stps1_ok hs, rfl, ⟨rfl, ?_⟩, Upd.one _ hz, fun q hq => by cases hq⟩
    exact (pr_went (getStp_ok hs)).2.2.1
  · have hs : getStp l .tt s = .bad (tCode l s.1) s.1 := by unfold getStp; simp only [Fk.pr]; rw [if_neg h0]
    repeat (first | refine RQ ?_ | (refine WL_Q ?_; (first | refine QW_of (Qt_typeAssertN rfl) ?_)) | (refine RE ?_; try intro _) | refine RC ?_ | refine WC_region ?_)
    refine WL_op rfl (OW_pan rfl taken_bool_no fun v L' h => ?_)
    obtain ⟨rfl, rfl⟩ := h
    exact ⟨_, rfl, tCode l s.1, s.1, p, s, [(rb, rdO l s.1), (gb, gtO rb s.2)], cs, (getW gb rb l).stps1_bad hs, rfl, by rw [set_same hR]; rfl, ⟨rfl, ha⟩, rfl⟩
set_option maxHeartbeats 1000000 in
theorem get_one : Flat (getW gb rb l) 182 (.pointer (some ⟨gb, 0, none⟩)) [.bb] := by
  rintro (s : Nat × Nat) _ R i b cs E fr off vs ⟨rfl, ha⟩ hT _ hR hv hl hfr
  obtain ⟨x0, us, rfl, hx, hv'⟩ := hv.split
  obtain rfl := hv'.nil
  have hc := hl.cons.1
  have hz : off < cs.size := (Array.getElem?_eq_some_iff.1 hc).1
  refine FnE_enter Tryz.func182 rfl Tryz.ntmps182 rfl fun g => ?_
  repeat (first | refine RQ ?_ | (refine WL_Q ?_; (first | refine QW_of (Qt_typeAssertN rfl) ?_)) | (refine RE ?_; try intro _) | refine RC ?_ | refine WC_region ?_)
  refine WL_op rfl (OW_call rfl (hF := Byte_fn ha hl9 _) (hk := ?_))
  rintro _ _ (⟨h0, rfl, rfl⟩ | ⟨h0, p, rfl, rfl⟩)
  · have hs : getStp l .bb s = .ok (s.1 + 1, s.2) (bV (bVal l s.1)) := by unfold getStp; simp only [Fk.pr]; rw [if_pos h0]; rfl
    repeat (first | refine RQ ?_ | (refine WL_Q ?_; (first | refine QW_of (Qt_typeAssertN rfl) ?_)) | (refine RE ?_; try intro _) | refine RC ?_ | refine WC_region ?_)
    refine WL_op rfl (OW_callP rfl (hF := taken_byte) (hk := ?_))
    repeat (first | refine RQ ?_ | (refine WL_Q ?_; (first | refine QW_of (Qt_typeAssertN rfl) ?_)) | (refine RE ?_; try intro _) | refine RC ?_ | refine WC_region ?_)
    have hX : ((rb, rdO l (s.1 + 1)) :: (gb, gtO rb s.2) :: R)[i + 2]? = some (b, .cells cs E fr) := hR
    refine WL_op rfl (OW_store1F (v := bV (bVal l s.1)) rfl _ hX hz (hfr.sub 0 1 (Nat.le_refl _)) (WL_nil ?_))
    refine ⟨.tuple #[], _, Res0 rfl, .refl _, rfl, (s.1 + 1, s.2), [bV (bVal l s.1)], [(rb, rdO l (s.1 + 1)), (gb, gtO rb s.2)], cs.setIfInBounds off (bV (bVal l s.1)), (getW gb rb l).stps1_ok hs, rfl, ⟨rfl, ?_⟩, Upd.one _ hz, fun q hq => by cases hq⟩
    exact (pr_went (getStp_ok hs)).2.2.1
  · have hs : getStp l .bb s = .bad (bCode l s.1) s.1 := by unfold getStp; simp only [Fk.pr]; rw [if_neg h0]
    repeat (first | refine RQ ?_ | (refine WL_Q ?_; (first | refine QW_of (Qt_typeAssertN rfl) ?_)) | (refine RE ?_; try intro _) | refine RC ?_ | refine WC_region ?_)
    refine WL_op rfl (OW_pan rfl taken_byte_no fun v L' h => ?_)
    obtain ⟨rfl, rfl⟩ := h
    exact ⟨_, rfl, bCode l s.1, s.1, p, s, [(rb, rdO l s.1), (gb, gtO rb s.2)], cs, (getW gb rb l).stps1_bad hs, rfl, by rw [set_same hR]; rfl, ⟨rfl, ha⟩, rfl⟩
omit hl9 in
theorem get_here (s : Nat × Nat) (Lp R : List (Nat × Obj)) (h : GMem gb rb l s Lp) : FnE Tryz.prog 179 [.pointer (some ⟨gb, 0, none⟩)] (Lp ++ R) (fun v L' => v = .tuple #[] ∧ ∃ Lp', L' = Lp' ++ R ∧ GMem gb rb l (s.1, s.1) Lp') (fun _ _ => False) := by
  obtain ⟨rfl, ha⟩ := h
  refine FnE.ofFn ?_
  refine Fn_enter Tryz.func179 rfl Tryz.ntmps179 rfl fun g => ?_
  repeat (first | refine RQ ?_ | (refine WL_Q ?_; (first | refine QW_of (Qt_typeAssertN rfl) ?_)) | (refine RE ?_; try intro _) | (refine WL_op rfl ?_; (first | refine OW_S (fun F => place_rd F) ?_)) | refine RC ?_ | refine WC_region ?_)
  exact ⟨rfl, _, _, Res0 rfl, .refl _, rfl, _, rfl, rfl, ha⟩
omit hl9 in
theorem get_must (s : Nat × Nat) (Lp R : List (Nat × Obj)) (b : Bool) (code : Nat) (h : GMem gb rb l s Lp) : FnE Tryz.prog 180 [.pointer (some ⟨gb, 0, none⟩), .bool b, .int .i64 code] (Lp ++ R) (fun v L' => v = .tuple #[] ∧ L' = Lp ++ R ∧ (if b then none else some (code, s.2)) = (none : Option (Nat × Nat))) (fun u L' => ∃ c a p, (if b then none else some (code, s.2)) = some (c, a) ∧ u = flt p ∧ L' = (p, fltO c a) :: (Lp ++ R)) := by
  obtain ⟨rfl, ha⟩ := h
  refine FnE_enter Tryz.func180 rfl Tryz.ntmps180 rfl fun g => ?_
  cases b
  · repeat (first | refine RQ ?_ | (refine WL_Q ?_; (first | refine QW_of (Qt_typeAssertN rfl) ?_)) | (refine RE ?_; try intro _) | refine RC ?_ | refine WC_region ?_)
    refine WL_op rfl (OW_panic (σ := ⟨_, _, _⟩) rfl rfl ?_)
    exact ⟨_, rfl, code, s.2, _, rfl, rfl, rfl⟩
  · repeat (first | refine RQ ?_ | (refine WL_Q ?_; (first | refine QW_of (Qt_typeAssertN rfl) ?_)) | (refine RE ?_; try intro _) | refine RC ?_ | refine WC_region ?_)
    exact ⟨_, _, Res0 rfl, .refl _, rfl, rfl, rfl⟩
def getM : Meth (getW gb rb l) where
  fw := 184
  fn := 181
  ft := 183
  fo := 182
  fh := 179
  fm := 180
  mw := by kernel_rfl
  mn := by kernel_rfl
  mt := by kernel_rfl
  mo := by kernel_rfl
  mh := by kernel_rfl
  mm := by kernel_rfl
  iw := inferInstance
  jn := inferInstance
  it := inferInstance
  io := inferInstance
  ih := inferInstance
  im := inferInstance
  cw := get_whole hl9
  cn := get_number hl9
  ct := get_truth hl9
  co := get_one hl9
  ch := get_here
  cm := fun s Lp R b code h => get_must s Lp R b code h
end
end Go.Proofs.YtdiaogcogkapgaaGreatDoor
namespace Go.Proofs.YtdiaogcogkapgaaGreatDoor
open Go.RowKit
attribute [local irreducible] Fn WC WL WR OW Qt YieldFn QW FnP FnD FnE
abbrev getV (gb : Nat) : Value := .iface 252 (.pointer (some ⟨gb, 0, none⟩))
theorem get_stps_ok {gb rb : Nat} {l : List UInt8} : ∀ {fs : List Fk} {s s' : Nat × Nat} {vs us : List Value}, Oks fs vs → (getW gb rb l).stps fs s vs = .ok s' us → prs l fs s.1 = .ok us s'.1
  | [], s, s', [], us, _, h => by simp only [Wy.stps] at h; cases h; rfl
  | k :: ks, s, s', v :: vs, us, ho, h => by
    simp only [Wy.stps] at h
    cases h1 : (getW gb rb l).stp k s v with
    | bad c a => rw [h1] at h; cases h
    | ok s1 v1 =>
      rw [h1] at h
      cases h2 : (getW gb rb l).stps ks s1 vs with
      | bad c a => simp only [h2] at h; cases h
      | ok s2 vs2 =>
        simp only [h2] at h
        cases h
        have e1 := getStp_ok (show getStp l k s = .ok s1 v1 from h1)
        have e2 := get_stps_ok ho.2 h2
        simp only [prs, e1, PR.bind, e2]
  | [], _, _, _ :: _, _, h, _ => h.elim
  | _ :: _, _, _, [], _, h, _ => h.elim
theorem getStp_bad {l : List UInt8} {k : Fk} {s : Nat × Nat} {c a : Nat} (h : getStp l k s = .bad c a) : Fk.pr l s.1 k = .bad c a := by
  unfold getStp at h
  split at h
  · cases h
  · rename_i h1; cases h; exact h1
theorem get_stps_bad {gb rb : Nat} {l : List UInt8} : ∀ {fs : List Fk} {s : Nat × Nat} {vs : List Value} {c a : Nat}, Oks fs vs → (getW gb rb l).stps fs s vs = .bad c a → prs l fs s.1 = .bad c a
  | [], s, [], c, a, _, h => by simp only [Wy.stps] at h; cases h
  | k :: ks, s, v :: vs, c, a, ho, h => by
    simp only [Wy.stps] at h
    cases h1 : (getW gb rb l).stp k s v with
    | bad c' a' =>
      rw [h1] at h; cases h
      have e1 := getStp_bad (show getStp l k s = .bad _ _ from h1)
      simp only [prs, e1, PR.bind]
    | ok s1 v1 =>
      rw [h1] at h
      have e1 := getStp_ok (show getStp l k s = .ok s1 v1 from h1)
      cases h2 : (getW gb rb l).stps ks s1 vs with
      | bad c' a' =>
        simp only [h2] at h; cases h
        have e2 := get_stps_bad ho.2 h2
        simp only [prs, e1, PR.bind, e2]
      | ok s2 vs2 => simp only [h2] at h; cases h
  | [], _, _ :: _, _, _, h, _ => h.elim
  | _ :: _, _, [], _, _, h, _ => h.elim
theorem prn_step {l : List UInt8} {es : List Fk} {n j a0 aj a' : Nat} {vss : List (List Value)} {us : List Value} (hp : prn l es n a0 = (prn l es (n - j) aj).bind fun vs b => .ok (vss ++ vs) b) (hj : j < n) (h : prs l es aj = .ok us a') : prn l es n a0 = (prn l es (n - (j + 1)) a').bind fun vs b => .ok ((vss ++ [us]) ++ vs) b := by
  obtain ⟨k, hk⟩ : ∃ k, n - j = k + 1 := ⟨n - j - 1, by omega⟩
  rw [hp, hk, show n - (j + 1) = k by omega, prn, h]
  simp only [PR.bind]
  cases prn l es k a' with
  | bad c a => rfl
  | ok vs b => simp
theorem prn_stop {l : List UInt8} {es : List Fk} {n j a0 aj c a : Nat} {vss : List (List Value)} (hp : prn l es n a0 = (prn l es (n - j) aj).bind fun vs b => .ok (vss ++ vs) b) (hj : j < n) (h : prs l es aj = .bad c a) : prn l es n a0 = .bad c a := by
  obtain ⟨k, hk⟩ : ∃ k, n - j = k + 1 := ⟨n - j - 1, by omega⟩
  rw [hp, hk, prn, h]
  rfl
theorem own_upd {sz : Nat} {cur cur' : Array Value} {off cap n : Nat} {xs zs us : List Value} (h : Own sz cur off cap (n + 1) (xs ++ zs)) (hx : xs.length = n * sz) (hu : Upd cur cur' (off + n * sz) us) (hul : us.length = sz) : Own sz cur' off cap (n + 1) (xs ++ us) := by
  refine ⟨by rw [List.length_append, hx, hul, Nat.succ_mul], h.le, h.max, by rw [hu.size]; exact h.fit, fun j x hj => ?_⟩
  by_cases hlt : j < xs.length
  · rw [List.getElem?_append_left hlt] at hj
    rw [hu.rest _ (.inl (by omega))]
    exact h.at_ j x (by rw [List.getElem?_append_left hlt]; exact hj)
  · rw [List.getElem?_append_right (by omega)] at hj
    have := hu.lies _ x hj
    rwa [show off + n * sz + (j - xs.length) = off + j by omega] at this
theorem Buf.full' {E sz : Nat} {v : Value} {T : List (Nat × Obj)} {n : Nat} {xs : List Value} (h : Buf E sz v T n xs) (hn : n ≠ 0) : ∃ g off cur, (∃ cap, v = .slice (some ⟨g, off, none⟩) n cap ∧ Own sz cur off cap n xs) ∧ T = [(g, .cells cur E (0, 0))] := by
  rcases h with ⟨_, h, _⟩ | ⟨g, off, cap, cur, rfl, rfl, ho⟩
  · exact absurd h hn
  · exact ⟨g, off, cur, ⟨cap, rfl, ho⟩, rfl⟩
theorem set_twice {cs : Array Value} {off : Nat} (u v : Value) : (cs.setIfInBounds off u).setIfInBounds off v = cs.setIfInBounds off v := by
  apply Array.ext_getElem?
  intro j
  by_cases e : off = j
  · subst e
    by_cases hlt : off < cs.size
    · rw [Array.getElem?_setIfInBounds_self_of_lt (by simpa using hlt), Array.getElem?_setIfInBounds_self_of_lt hlt]
    · rw [Array.getElem?_eq_none (by simp; omega), Array.getElem?_eq_none (by simp; omega)]
  · rw [Array.getElem?_setIfInBounds_ne e, Array.getElem?_setIfInBounds_ne e, Array.getElem?_setIfInBounds_ne e]
theorem set_idem {cs : Array Value} {off : Nat} {v : Value} (h : cs[off]? = some v) : cs.setIfInBounds off v = cs := by
  apply Array.ext_getElem?
  intro j
  by_cases e : off = j
  · subst e; rw [Array.getElem?_setIfInBounds_self_of_lt (Array.getElem?_eq_some_iff.1 h).1, h]
  · rw [Array.getElem?_setIfInBounds_ne e]
abbrev zInt : List Value := [.int .i64 0]
theorem zInt_ok : Oks binF zInt := ⟨oks_zI, trivial⟩
abbrev zEnt : List Value := [.int .i64 0, .int .u32 0, .int .i64 0, .int .i64 0, .int .u8 0, .int .i64 0, .int .i64 0, .int .u64 0, .int .i64 0, .int .i64 0]
theorem zEnt_ok : Oks entryF zEnt := ⟨oks_zI, ⟨0, rfl, by omega, by omega⟩, oks_zI, oks_zI, ⟨0, rfl⟩, oks_zI, oks_zI, ⟨0, rfl, by omega, by omega⟩, oks_zI, oks_zI, trivial⟩
theorem zEnt_src {c : Cx} {L : List (Nat × Obj)} {q E : Nat} [TUnd c.P 39 (.slice E)] (i : Nat) (hi : L[i]? = some (q, .cells zc214 214 (0, 0))) : SrcL c L 10 39 (.slice (some ⟨q, 0, none⟩) 1 1) 1 zEnt :=
  srcVec ⟨rfl, _, _, rfl, Nat.le_refl _, by decide, .inr ⟨q, 0, zc214, _, _, i, rfl, hi, fun j v h => by rw [Nat.zero_add, show zc214 = zEnt.toArray from rfl]; simpa using h⟩⟩ (oks_one zEnt_ok)
set_option maxHeartbeats 4000000 in
theorem glist_int {gb rb : Nat} {l : List UInt8} (hl9 : l.length ≤ 1000000000) {s : Nat × Nat} {Lp R : List (Nat × Obj)} {i b : Nat} {cs : Array Value} {E : TypeId} {fr : Nat × Nat} {off most : Nat} (hm9 : most ≤ 1000) (hM : GMem gb rb l s Lp) (hR : R[i]? = some (b, .cells cs E fr)) (hc : cs[off]? = some (.slice none 0 0)) (hfr : Free fr off 1) :
    FnE Tryz.prog 120 [getV gb, .pointer (some ⟨b, off, none⟩), .int .i64 (most : Nat), .func (.func 94) #[] #[]] (Lp ++ R)
      (fun v L' => v = .tuple #[] ∧ ∃ vss s' Lp' v' T, prl l most binF s.1 = .ok vss s'.1 ∧ L' = Lp' ++ (T ++ R.set i (b, .cells (cs.setIfInBounds off v') E fr)) ∧ GMem gb rb l s' Lp' ∧ Buf 3 1 v' T vss.length vss.flatten)
      (fun u L' => ∃ c a p s' Lp' cs', prl l most binF s.1 = .bad c a ∧ u = flt p ∧ L' = (p, fltO c a) :: (Lp' ++ R.set i (b, .cells cs' E fr)) ∧ GMem gb rb l s' Lp' ∧ cs'.size = cs.size) := by
  have ih := (getM (gb := gb) (rb := rb) hl9).ih
  have jn := (getM (gb := gb) (rb := rb) hl9).jn
  have im := (getM (gb := gb) (rb := rb) hl9).im
  have hz : off < cs.size := (Array.getElem?_eq_some_iff.1 hc).1
  have hwm : IntKind.u64.wrap ((most : Nat) : Int) = ((most : Nat) : Int) := wU64 (by omega) (by omega)
  refine FnE_enter Tryz.func120 rfl Tryz.ntmps120 rfl fun g => ?_
  repeat (first | refine RQ ?_ | (refine WL_Q ?_; (first | refine QW_of (Qt_nilCheck_m rfl) ?_)) | (refine RE ?_; try intro _) | refine RC ?_ | refine WC_region ?_)
  refine WL_op rfl ?_
  refine OW_invE (getM (gb := gb) (rb := rb) hl9).mh rfl (get_here s Lp R hM) ?_ (fun _ _ h => h.elim)
  rintro _ _ ⟨rfl, Lp1, rfl, hM1⟩
  have hX1 := get_app (A := Lp1) hR
  repeat (first | refine RQ ?_ | (refine WL_Q ?_; (first | refine QW_of (Qt_nilCheck_m rfl) ?_)) | (refine RE ?_; try intro _) | refine RC ?_ | refine WG 0 ?_ | refine WG 1 ?_ | refine WG 2 ?_ | refine WG 4 ?_ | refine WG 5 ?_ | refine WG 6 ?_ | refine WG 7 ?_ | refine WG 8 ?_ | refine WG 9 ?_ | refine WG 10 ?_ | refine WG 11 ?_)
  rename_i mb
  refine WL_op rfl ?_
  refine OW_locI (c := ⟨Tryz.prog, g, _, _, _⟩) (W := getW gb rb l) (k := .nn) (s := (s.1, s.1)) (getM (gb := gb) (rb := rb) hl9).mn (getM (gb := gb) (rb := rb) hl9).cn hM1 (fun q hq => by cases hq) trivial ⟨_, rfl, u64_lo _, u64_hi _⟩ rfl ?_ ?_
  rotate_left
  · intro c a p s' Lp' hs hM'
    have e := getStp_bad (show getStp l .nn (s.1, s.1) = .bad c a from hs)
    exact ⟨_, rfl, c, a, p, s', Lp', cs, by unfold prl; rw [e]; rfl, rfl, by rw [set_same hR], hM', rfl⟩
  intro s2 x' Lp2 hs hM2
  have e0 := getStp_ok (show getStp l .nn (s.1, s.1) = .ok s2 x' from hs)
  have hu0 : uCode l s.1 = 0 ∧ x' = .int .u64 (uVal l s.1) := by
    simp only [Fk.pr] at e0
    split at e0
    · rename_i h; simp only [PR.ok.injEq] at e0; exact ⟨h, e0.1.symm⟩
    · cases e0
  obtain ⟨hu0, rfl⟩ := hu0
  repeat (first | refine RQ ?_ | (refine WL_Q ?_; (first | refine QW_of (Qt_nilCheck_m rfl) ?_)) | (refine RE ?_; try intro _) | refine RC ?_ | refine WG 0 ?_ | refine WG 1 ?_ | refine WG 2 ?_ | refine WG 4 ?_ | refine WG 5 ?_ | refine WG 6 ?_ | refine WG 7 ?_ | refine WG 8 ?_ | refine WG 9 ?_ | refine WG 10 ?_ | refine WG 11 ?_)
  refine WC_region ?_
  repeat (first | refine RQ ?_ | (refine WL_Q ?_; (first | refine QW_of (Qt_nilCheck_m rfl) ?_)) | (refine RE ?_; try intro _) | refine RC ?_ | refine WC_region ?_)
  rw [hwm]
  refine WL_op rfl ?_
  have hF := get_must s2 Lp2 ((mb, Obj.cells #[Value.int .u64 (uVal l s.1)] 91 (0, 0)) :: R) (decide (((uVal l s.1 : Nat) : Int) ≤ ((most : Nat) : Int))) 4 hM2
  refine OW_invE (getM (gb := gb) (rb := rb) hl9).mm rfl ((hF.dropP (Rp' := fun u L' => ∃ c a p, (if decide (((uVal l s.1 : Nat) : Int) ≤ ((most : Nat) : Int)) then none else some (4, s2.2)) = some (c, a) ∧ u = flt p ∧ L' = (p, fltO c a) :: (Lp2 ++ R)) (fun u L' ⟨c, a, p, h1, h2, h3⟩ => ⟨(p, fltO c a) :: (Lp2 ++ R), by rw [h3]; exact .cons_cons _ (.append (.refl _) (.cons _ (.refl _))), c, a, p, h1, h2, rfl⟩)).perm List.perm_middle (fun v L' h => ⟨_, .refl _, h⟩) (fun v L' h => ⟨_, .refl _, h⟩)) ?_ ?_
  rotate_left
  · rintro _ _ ⟨c, a, p, hm, rfl, rfl⟩
    have hgt : ¬ uVal l s.1 ≤ most := fun h => by rw [decide_eq_true (by omega)] at hm; cases hm
    rw [decide_eq_false (by omega)] at hm
    simp only [Bool.false_eq_true, if_false, Option.some.injEq, Prod.mk.injEq] at hm
    obtain ⟨rfl, rfl⟩ := hm
    have hat : s2.2 = s.1 := by
      have h1 : getStp l .nn (s.1, s.1) = .ok s2 (.int .u64 (uVal l s.1)) := hs
      unfold getStp at h1; rw [e0] at h1; injection h1 with h2 _; exact (congrArg Prod.snd h2).symm
    exact ⟨_, rfl, 4, s2.2, p, s2, Lp2, cs, by unfold prl; rw [e0]; simp only [PR.bind]; rw [if_neg hgt, hat], rfl, by rw [set_same hR], hM2, rfl⟩
  rintro _ _ ⟨rfl, rfl, hm⟩
  have hle : uVal l s.1 ≤ most := by
    rcases Nat.lt_or_ge most (uVal l s.1) with h | h
    · rw [decide_eq_false (by omega)] at hm; cases hm
    · exact h
  have hX0 : (Lp2 ++ ((mb, Obj.cells #[Value.int .u64 (uVal l s.1)] 91 (0, 0)) :: R))[Lp2.length]? = some _ := get_app (A := Lp2) (i := 0) rfl
  repeat (first | refine RQ ?_ | (refine WL_Q ?_; (first | refine QW_of (Qt_nilCheck_m rfl) ?_)) | (refine RE ?_; try intro _) | refine RC0 ?_ | refine WC_block (id := 1) ?_ | refine WC_region ?_)
  have hset0 : R.set i (b, Obj.cells (cs.setIfInBounds off (.slice none 0 0)) E fr) = R := by rw [set_idem hc, set_same hR]
  obtain ⟨n, hn⟩ : ∃ n, n = uVal l s.1 := ⟨_, rfl⟩
  rw [← hn]
  rw [← hn] at hle
  have hprl : prl l most binF s.1 = prn l binF n s2.1 := by unfold prl; rw [e0]; simp only [PR.bind]; rw [← hn, if_pos hle]
  rw [hprl]
  refine WC_block (WC_wk [(27, .int .u64 0), (26, .int .u64 (n : Nat)), (0, getV gb), (1, .pointer (some ⟨b, off, none⟩)), (3, .func (.func 94) #[] #[])] ⟨rfl, rfl, rfl, rfl, rfl, trivial⟩ ?_)
  refine WC_dropL (Lp2 ++ R) (.append (.refl _) (.cons _ (.refl _))) ?_
  refine WC_loop (fun m σ => ∃ (j : Nat) (sj : Nat × Nat) (Lpj Tj : List (Nat × Obj)) (vj : Value) (vssj : List (List Value)), m = n - j ∧ j ≤ n ∧ GMem gb rb l sj Lpj ∧ Buf 3 1 vj Tj j vssj.flatten ∧ vssj.length = j ∧ prn l binF n s2.1 = (prn l binF (n - j) sj.1).bind (fun vs b => .ok (vssj ++ vs) b) ∧ σ = ⟨[(27, .int .u64 (j : Nat)), (26, .int .u64 (n : Nat)), (0, getV gb), (1, .pointer (some ⟨b, off, none⟩)), (3, .func (.func 94) #[] #[])], [], Lpj ++ (Tj ++ R.set i (b, Obj.cells (cs.setIfInBounds off vj) E fr))⟩) n ⟨0, s2, Lp2, [], .slice none 0 0, [], by omega, by omega, hM2, Buf.nil _ _, rfl, by
    show _ = (prn l binF n s2.1).bind _
    cases prn l binF n s2.1 <;> rfl, by rw [hset0]; rfl⟩ ?_
  rintro m σ ⟨j, sj, Lpj, Tj, vj, vssj, rfl, hj, hMj, hbuf, hvl, hp, rfl⟩
  by_cases hlt : j < n
  · have d1 : decide (((j : Nat) : Int) < ((n : Nat) : Int)) = true := decide_eq_true (by omega)
    have hwj0 : IntKind.u64.wrap ((j : Nat) : Int) = ((j : Nat) : Int) := wU64 (by omega) (by omega)
    have d2 : (((j : Nat) : Int) == IntKind.u64.wrap ((j : Nat) : Int)) = true := by rw [hwj0]; simp
    have hwj : IntKind.u64.wrap (((j : Nat) : Int) + 1) = ((j + 1 : Nat) : Int) := by rw [wU64 (by omega) (by omega)]; omega
    obtain ⟨ag, cap, rfl, _⟩ := hbuf.val
    have hXj := get_app (A := Lpj) (get_app (A := Tj) (get_set_self hR (b, Obj.cells (cs.setIfInBounds off (.slice ag j cap)) E fr)))
    have hvj : (cs.setIfInBounds off (.slice ag j cap))[off]? = some (.slice ag j cap) := by rw [Array.getElem?_setIfInBounds_self_of_lt hz]
    have i0 : 0 ≤ ((j : Nat) : Int) := by omega
    have i1 : ((j : Nat) : Int) < ((j + 1 : Nat) : Int) := by omega
    repeat (first | refine RQ ?_ | (refine WL_Q ?_; (first | refine QW_of (Qt_nilCheck_m rfl) ?_)) | (refine RE ?_; try intro _) | refine RC ?_ | refine WC_region ?_)
    rename_i qb
    refine WL_op rfl (OW_append_buf (A := (qb, Obj.cells #[Value.int .i64 0] 3 (0, 0)) :: Lpj) rfl rfl rfl rfl rfl hbuf (src1 0 rfl) (by omega) (by simp only [maxLen]; omega) (by omega) fun v' T' hb' => ?_)
    obtain ⟨g', goff, gcur, ⟨gcap, rfl, hown⟩, rfl⟩ := hb'.full' (by omega)
    repeat (first | refine RQ ?_ | (refine WL_Q ?_; (first | refine QW_of (Qt_nilCheck_m rfl) ?_)) | (refine RE ?_; try intro _) | refine RC ?_ | refine WG 0 ?_ | refine WG 1 ?_ | refine WG 2 ?_ | refine WG 3 ?_ | refine WG 4 ?_ | refine WG 5 ?_ | refine WG 6 ?_ | refine WG 7 ?_ | refine WG 8 ?_ | refine WG 9 ?_ | refine WG 11 ?_)
    have hXn : ((qb, Obj.cells #[Value.int .i64 0] 3 (0, 0)) :: (Lpj ++ ([(g', Obj.cells gcur 3 (0, 0))] ++ R.set i (b, Obj.cells (cs.setIfInBounds off (.slice ag j cap)) E fr))))[(Lpj.length + (1 + i)) + 1]? = some (b, .cells (cs.setIfInBounds off (.slice ag j cap)) E fr) := get_app (A := Lpj) (get_app (A := [(g', Obj.cells gcur 3 (0, 0))]) (get_set_self hR _))
    refine WL_op rfl (OW_store1F (v := .slice (some ⟨g', goff, none⟩) (j + 1) gcap) rfl _ hXn (by simpa using hz) hfr (WL_nil ?_))
    have hL : ((qb, Obj.cells #[Value.int .i64 0] 3 (0, 0)) :: (Lpj ++ ([(g', Obj.cells gcur 3 (0, 0))] ++ R.set i (b, Obj.cells (cs.setIfInBounds off (.slice ag j cap)) E fr)))).set ((Lpj.length + (1 + i)) + 1) (b, Obj.cells ((cs.setIfInBounds off (.slice ag j cap)).setIfInBounds off (.slice (some ⟨g', goff, none⟩) (j + 1) gcap)) E fr) = (qb, Obj.cells #[Value.int .i64 0] 3 (0, 0)) :: (Lpj ++ ([(g', Obj.cells gcur 3 (0, 0))] ++ R.set i (b, Obj.cells (cs.setIfInBounds off (.slice (some ⟨g', goff, none⟩) (j + 1) gcap)) E fr))) := by
      rw [List.set_cons_succ, set_app, show 1 + i = [(g', Obj.cells gcur 3 (0, 0))].length + i from rfl, set_app, List.set_set, set_twice]
    have hsubL := (List.Sublist.refl (Lpj ++ ([(g', Obj.cells gcur 3 (0, 0))] ++ R.set i (b, Obj.cells (cs.setIfInBounds off (.slice (some ⟨g', goff, none⟩) (j + 1) gcap)) E fr)))).cons (qb, Obj.cells #[Value.int .i64 0] 3 (0, 0))
    rw [← hL] at hsubL
    repeat (first | refine RQ ?_ | (refine WL_Q ?_; (first | refine QW_of (Qt_nilCheck_m rfl) ?_)) | (refine RE ?_; try intro _) | refine RC ?_ | refine WG 0 ?_ | refine WG 1 ?_ | refine WG 2 ?_ | refine WG 3 ?_ | refine WG 4 ?_ | refine WG 5 ?_ | refine WG 6 ?_ | refine WG 7 ?_ | refine WG 8 ?_ | refine WG 9 ?_ | refine WG 11 ?_)
    refine WC_dropL _ hsubL ?_
    have hvn : (cs.setIfInBounds off (.slice (some ⟨g', goff, none⟩) (j + 1) gcap))[off]? = some (.slice (some ⟨g', goff, none⟩) (j + 1) gcap) := by rw [Array.getElem?_setIfInBounds_self_of_lt hz]
    have hXm := get_app (A := Lpj) (get_app (A := [(g', Obj.cells gcur 3 (0, 0))]) (get_set_self hR (b, Obj.cells (cs.setIfInBounds off (.slice (some ⟨g', goff, none⟩) (j + 1) gcap)) E fr)))
    repeat (first | refine RQ ?_ | (refine WL_Q ?_; (first | refine QW_of (Qt_nilCheck_m rfl) ?_)) | (refine RE ?_; try intro _) | refine RC ?_ | refine WC_region ?_)
    refine WL_op rfl ?_
    have hfl : vssj.flatten.length = j * 1 := hbuf.len
    have hlz : Lies gcur (goff + j * 1) zInt := fun q v hq => by
      have := hown.at_ (j * 1 + q) v (by rw [List.getElem?_append_right (by omega), hfl, show j * 1 + q - j * 1 = q by omega]; exact hq)
      rwa [← Nat.add_assoc] at this
    have hC := small_flat (getM hl9) sj Lpj ([(g', Obj.cells gcur 3 (0, 0))] ++ R.set i (b, Obj.cells (cs.setIfInBounds off (.slice (some ⟨g', goff, none⟩) (j + 1) gcap)) E fr)) 0 g' gcur 3 (0, 0) (goff + j * 1) zInt hMj (fun q hq => by cases hq) trivial rfl zInt_ok hlz (Free.zero _ _)
    refine OW_callE rfl (hC.dropP (Rp' := fun u L' => ∃ c a p s' Lp', prs l binF sj.1 = .bad c a ∧ u = flt p ∧ L' = (p, fltO c a) :: (Lp' ++ R.set i (b, Obj.cells (cs.setIfInBounds off (.slice (some ⟨g', goff, none⟩) (j + 1) gcap)) E fr)) ∧ GMem gb rb l s' Lp') (fun u L' ⟨c, a, p, s', Lp', cur', h1, h2, h3, h4, _⟩ => ⟨(p, fltO c a) :: (Lp' ++ R.set i (b, Obj.cells (cs.setIfInBounds off (.slice (some ⟨g', goff, none⟩) (j + 1) gcap)) E fr)), by rw [h3]; exact .cons_cons _ (.append (.refl _) (.cons _ (.refl _))), c, a, p, s', Lp', get_stps_bad zInt_ok h1, h2, rfl, h4⟩)) ?_ ?_
    rotate_left
    · rintro _ _ ⟨c, a, p, s', Lp', h1, rfl, rfl, h4⟩
      exact ⟨_, rfl, c, a, p, s', Lp', cs.setIfInBounds off (.slice (some ⟨g', goff, none⟩) (j + 1) gcap), prn_stop hp hlt h1, rfl, rfl, h4, by simp⟩
    rintro _ _ ⟨rfl, s', us, Lp', cur', h1, rfl, h3, h4, _⟩
    have e := get_stps_ok zInt_ok h1
    have hul : us.length = 1 := (getW gb rb l).stps_len h1 zInt_ok
    repeat (first | refine RQ ?_ | (refine WL_Q ?_; (first | refine QW_of (Qt_nilCheck_m rfl) ?_)) | (refine RE ?_; try intro _) | refine RC ?_ | refine WC_region ?_)
    rw [hwj]
    exact ⟨_, _, by omega, ⟨j + 1, s', Lp', [(g', Obj.cells cur' 3 (0, 0))], .slice (some ⟨g', goff, none⟩) (j + 1) gcap, vssj ++ [us], rfl, by omega, h3, .inr ⟨g', goff, gcap, cur', rfl, rfl, by
      have := own_upd hown hfl h4 hul
      simpa using this⟩, by simp [hvl], prn_step hp hlt e, rfl⟩, ⟨rfl, rfl, rfl, rfl, rfl, trivial⟩, rfl, .refl _⟩
  · have d1 : decide (((j : Nat) : Int) < ((n : Nat) : Int)) = false := decide_eq_false (by omega)
    have hjn : n - j = 0 := by omega
    rw [hjn] at hp
    have hp' : prn l binF n s2.1 = .ok vssj sj.1 := by rw [hp]; simp [prn, PR.bind]
    subst hvl
    repeat (first | refine RQ ?_ | (refine WL_Q ?_; (first | refine QW_of (Qt_nilCheck_m rfl) ?_)) | (refine RE ?_; try intro _) | refine RC ?_ | refine WC_region ?_)
    exact ⟨_, _, Res0 rfl, .refl _, rfl, vssj, sj, Lpj, vj, Tj, hp', rfl, hMj, hbuf⟩
set_option maxHeartbeats 4000000 in
theorem glist_entry {gb rb : Nat} {l : List UInt8} (hl9 : l.length ≤ 1000000000) {s : Nat × Nat} {Lp R : List (Nat × Obj)} {i b : Nat} {cs : Array Value} {E : TypeId} {fr : Nat × Nat} {off most : Nat} (hm9 : most ≤ 1000) (hM : GMem gb rb l s Lp) (hR : R[i]? = some (b, .cells cs E fr)) (hc : cs[off]? = some (.slice none 0 0)) (hfr : Free fr off 1) :
    FnE Tryz.prog 122 [getV gb, .pointer (some ⟨b, off, none⟩), .int .i64 (most : Nat), .func (.func 123) #[] #[]] (Lp ++ R)
      (fun v L' => v = .tuple #[] ∧ ∃ vss s' Lp' v' T, prl l most entryF s.1 = .ok vss s'.1 ∧ L' = Lp' ++ (T ++ R.set i (b, .cells (cs.setIfInBounds off v') E fr)) ∧ GMem gb rb l s' Lp' ∧ Buf 214 10 v' T vss.length vss.flatten)
      (fun u L' => ∃ c a p s' Lp' cs', prl l most entryF s.1 = .bad c a ∧ u = flt p ∧ L' = (p, fltO c a) :: (Lp' ++ R.set i (b, .cells cs' E fr)) ∧ GMem gb rb l s' Lp' ∧ cs'.size = cs.size) := by
  have ih := (getM (gb := gb) (rb := rb) hl9).ih
  have jn := (getM (gb := gb) (rb := rb) hl9).jn
  have im := (getM (gb := gb) (rb := rb) hl9).im
  have hz : off < cs.size := (Array.getElem?_eq_some_iff.1 hc).1
  have hwm : IntKind.u64.wrap ((most : Nat) : Int) = ((most : Nat) : Int) := wU64 (by omega) (by omega)
  refine FnE_enter Tryz.func122 rfl Tryz.ntmps122 rfl fun g => ?_
  repeat (first | refine RQr ?_ | (refine RX ?_; (first | refine QW_of (Qt_nilCheck_m rfl) ?_)) | (refine OX ?_; (first | (refine OE ?_; try intro _)); try refine SD ?_) | refine RC ?_ | refine RU ?_ | refine WC_draw_all (id := 9) 8 (.calm 0 <| .calm 1 <| .calm 2 <| .calm 3 <| .calm 4 <| .must 5 <| .must 6 <| .calm 7 <| .must 8 <| .done) mixed (by kernel_rfl) ?_ | refine WC_region ?_)
  refine WL_op rfl ?_
  refine OW_invE (getM (gb := gb) (rb := rb) hl9).mh rfl (get_here s Lp R hM) ?_ (fun _ _ h => h.elim)
  rintro _ _ ⟨rfl, Lp1, rfl, hM1⟩
  have hX1 := get_app (A := Lp1) hR
  repeat (first | refine RQr ?_ | (refine RX ?_; (first | refine QW_of (Qt_nilCheck_m rfl) ?_)) | (refine OX ?_; (first | (refine OE ?_; try intro _)); try refine SD ?_) | refine RC ?_ | refine RU ?_ | refine WC_draw_all (id := 9) 8 (.calm 0 <| .calm 1 <| .calm 2 <| .calm 3 <| .calm 4 <| .must 5 <| .must 6 <| .calm 7 <| .must 8 <| .done) mixed (by kernel_rfl) ?_ | refine WG 0 ?_ | refine WG 1 ?_ | refine WG 2 ?_ | refine WG 4 ?_ | refine WG 5 ?_ | refine WG 6 ?_ | refine WG 7 ?_ | refine WG 8 ?_ | refine WG 10 ?_ | refine WG 11 ?_)
  rename_i mb
  refine WL_op rfl ?_
  refine OW_locI (c := ⟨Tryz.prog, g, _, _, _⟩) (W := getW gb rb l) (k := .nn) (s := (s.1, s.1)) (getM (gb := gb) (rb := rb) hl9).mn (getM (gb := gb) (rb := rb) hl9).cn hM1 (fun q hq => by cases hq) trivial ⟨_, rfl, u64_lo _, u64_hi _⟩ rfl ?_ ?_
  rotate_left
  · intro c a p s' Lp' hs hM'
    have e := getStp_bad (show getStp l .nn (s.1, s.1) = .bad c a from hs)
    exact ⟨_, rfl, c, a, p, s', Lp', cs, by unfold prl; rw [e]; rfl, rfl, by rw [set_same hR], hM', rfl⟩
  intro s2 x' Lp2 hs hM2
  have e0 := getStp_ok (show getStp l .nn (s.1, s.1) = .ok s2 x' from hs)
  have hu0 : uCode l s.1 = 0 ∧ x' = .int .u64 (uVal l s.1) := by
    simp only [Fk.pr] at e0
    split at e0
    · rename_i h; simp only [PR.ok.injEq] at e0; exact ⟨h, e0.1.symm⟩
    · cases e0
  obtain ⟨hu0, rfl⟩ := hu0
  repeat (first | refine RQr ?_ | (refine RX ?_; (first | refine QW_of (Qt_nilCheck_m rfl) ?_)) | (refine OX ?_; (first | (refine OE ?_; try intro _)); try refine SD ?_) | refine RC ?_ | refine RU ?_ | refine WC_draw_all (id := 9) 8 (.calm 0 <| .calm 1 <| .calm 2 <| .calm 3 <| .calm 4 <| .must 5 <| .must 6 <| .calm 7 <| .must 8 <| .done) mixed (by kernel_rfl) ?_ | refine WG 0 ?_ | refine WG 1 ?_ | refine WG 2 ?_ | refine WG 4 ?_ | refine WG 5 ?_ | refine WG 6 ?_ | refine WG 7 ?_ | refine WG 8 ?_ | refine WG 10 ?_ | refine WG 11 ?_)
  refine WC_region ?_
  repeat (first | refine RQr ?_ | (refine RX ?_; (first | refine QW_of (Qt_nilCheck_m rfl) ?_)) | (refine OX ?_; (first | (refine OE ?_; try intro _)); try refine SD ?_) | refine RC ?_ | refine RU ?_ | refine WC_draw_all (id := 9) 8 (.calm 0 <| .calm 1 <| .calm 2 <| .calm 3 <| .calm 4 <| .must 5 <| .must 6 <| .calm 7 <| .must 8 <| .done) mixed (by kernel_rfl) ?_ | refine WC_region ?_)
  rw [hwm]
  refine WL_op rfl ?_
  have hF := get_must s2 Lp2 ((mb, Obj.cells #[Value.int .u64 (uVal l s.1)] 91 (0, 0)) :: R) (decide (((uVal l s.1 : Nat) : Int) ≤ ((most : Nat) : Int))) 4 hM2
  refine OW_invE (getM (gb := gb) (rb := rb) hl9).mm rfl ((hF.dropP (Rp' := fun u L' => ∃ c a p, (if decide (((uVal l s.1 : Nat) : Int) ≤ ((most : Nat) : Int)) then none else some (4, s2.2)) = some (c, a) ∧ u = flt p ∧ L' = (p, fltO c a) :: (Lp2 ++ R)) (fun u L' ⟨c, a, p, h1, h2, h3⟩ => ⟨(p, fltO c a) :: (Lp2 ++ R), by rw [h3]; exact .cons_cons _ (.append (.refl _) (.cons _ (.refl _))), c, a, p, h1, h2, rfl⟩)).perm List.perm_middle (fun v L' h => ⟨_, .refl _, h⟩) (fun v L' h => ⟨_, .refl _, h⟩)) ?_ ?_
  rotate_left
  · rintro _ _ ⟨c, a, p, hm, rfl, rfl⟩
    have hgt : ¬ uVal l s.1 ≤ most := fun h => by rw [decide_eq_true (by omega)] at hm; cases hm
    rw [decide_eq_false (by omega)] at hm
    simp only [Bool.false_eq_true, if_false, Option.some.injEq, Prod.mk.injEq] at hm
    obtain ⟨rfl, rfl⟩ := hm
    have hat : s2.2 = s.1 := by
      have h1 : getStp l .nn (s.1, s.1) = .ok s2 (.int .u64 (uVal l s.1)) := hs
      unfold getStp at h1; rw [e0] at h1; injection h1 with h2 _; exact (congrArg Prod.snd h2).symm
    exact ⟨_, rfl, 4, s2.2, p, s2, Lp2, cs, by unfold prl; rw [e0]; simp only [PR.bind]; rw [if_neg hgt, hat], rfl, by rw [set_same hR], hM2, rfl⟩
  rintro _ _ ⟨rfl, rfl, hm⟩
  have hle : uVal l s.1 ≤ most := by
    rcases Nat.lt_or_ge most (uVal l s.1) with h | h
    · rw [decide_eq_false (by omega)] at hm; cases hm
    · exact h
  have hX0 : (Lp2 ++ ((mb, Obj.cells #[Value.int .u64 (uVal l s.1)] 91 (0, 0)) :: R))[Lp2.length]? = some _ := get_app (A := Lp2) (i := 0) rfl
  repeat (first | refine RQr ?_ | (refine RX ?_; (first | refine QW_of (Qt_nilCheck_m rfl) ?_)) | (refine OX ?_; (first | (refine OE ?_; try intro _)); try refine SD ?_) | refine RC0 ?_ | refine RU ?_ | refine WC_block (id := 1) ?_ | refine WC_draw_all (id := 9) 8 (.calm 0 <| .calm 1 <| .calm 2 <| .calm 3 <| .calm 4 <| .must 5 <| .must 6 <| .calm 7 <| .must 8 <| .done) mixed (by kernel_rfl) ?_ | refine WC_region ?_)
  have hset0 : R.set i (b, Obj.cells (cs.setIfInBounds off (.slice none 0 0)) E fr) = R := by rw [set_idem hc, set_same hR]
  obtain ⟨n, hn⟩ : ∃ n, n = uVal l s.1 := ⟨_, rfl⟩
  rw [← hn]
  rw [← hn] at hle
  have hprl : prl l most entryF s.1 = prn l entryF n s2.1 := by unfold prl; rw [e0]; simp only [PR.bind]; rw [← hn, if_pos hle]
  rw [hprl]
  refine WC_block (WC_wk [(27, .int .u64 0), (26, .int .u64 (n : Nat)), (0, getV gb), (1, .pointer (some ⟨b, off, none⟩)), (3, .func (.func 123) #[] #[])] ⟨rfl, rfl, rfl, rfl, rfl, trivial⟩ ?_)
  refine WC_dropL (Lp2 ++ R) (.append (.refl _) (.cons _ (.refl _))) ?_
  refine WC_loop (fun m σ => ∃ (j : Nat) (sj : Nat × Nat) (Lpj Tj : List (Nat × Obj)) (vj : Value) (vssj : List (List Value)), m = n - j ∧ j ≤ n ∧ GMem gb rb l sj Lpj ∧ Buf 214 10 vj Tj j vssj.flatten ∧ vssj.length = j ∧ prn l entryF n s2.1 = (prn l entryF (n - j) sj.1).bind (fun vs b => .ok (vssj ++ vs) b) ∧ σ = ⟨[(27, .int .u64 (j : Nat)), (26, .int .u64 (n : Nat)), (0, getV gb), (1, .pointer (some ⟨b, off, none⟩)), (3, .func (.func 123) #[] #[])], [], Lpj ++ (Tj ++ R.set i (b, Obj.cells (cs.setIfInBounds off vj) E fr))⟩) n ⟨0, s2, Lp2, [], .slice none 0 0, [], by omega, by omega, hM2, Buf.nil _ _, rfl, by
    show _ = (prn l entryF n s2.1).bind _
    cases prn l entryF n s2.1 <;> rfl, by rw [hset0]; rfl⟩ ?_
  rintro m σ ⟨j, sj, Lpj, Tj, vj, vssj, rfl, hj, hMj, hbuf, hvl, hp, rfl⟩
  by_cases hlt : j < n
  · have d1 : decide (((j : Nat) : Int) < ((n : Nat) : Int)) = true := decide_eq_true (by omega)
    have hwj0 : IntKind.u64.wrap ((j : Nat) : Int) = ((j : Nat) : Int) := wU64 (by omega) (by omega)
    have d2 : (((j : Nat) : Int) == IntKind.u64.wrap ((j : Nat) : Int)) = true := by rw [hwj0]; simp
    have hwj : IntKind.u64.wrap (((j : Nat) : Int) + 1) = ((j + 1 : Nat) : Int) := by rw [wU64 (by omega) (by omega)]; omega
    obtain ⟨ag, cap, rfl, _⟩ := hbuf.val
    have hXj := get_app (A := Lpj) (get_app (A := Tj) (get_set_self hR (b, Obj.cells (cs.setIfInBounds off (.slice ag j cap)) E fr)))
    have hvj : (cs.setIfInBounds off (.slice ag j cap))[off]? = some (.slice ag j cap) := by rw [Array.getElem?_setIfInBounds_self_of_lt hz]
    have i0 : 0 ≤ ((j : Nat) : Int) := by omega
    have i1 : ((j : Nat) : Int) < ((j + 1 : Nat) : Int) := by omega
    repeat (first | refine RQ ?_ | (refine WL_Q ?_; (first | refine QW_of (Qt_nilCheck_m rfl) ?_)) | (refine RE ?_; try intro _) | refine RC ?_ | refine WG 0 ?_ | refine WG 1 ?_ | refine WG 2 ?_ | refine WG 3 ?_ | refine WG 4 ?_ | refine WG 5 ?_ | refine WG 6 ?_ | refine WG 7 ?_ | refine WG 8 ?_ | refine WG 10 ?_ | refine WG 11 ?_)
    rename_i zb
    have hsub : ((zb, Obj.cells zc214 214 (0, 0)) :: (Lpj ++ R.set i (b, Obj.cells (cs.setIfInBounds off (.slice ag j cap)) E fr))).Sublist ((zb, Obj.cells zc214 214 (0, 0)) :: (Lpj ++ (Tj ++ R.set i (b, Obj.cells (cs.setIfInBounds off (.slice ag j cap)) E fr)))) := .cons_cons _ (.append (.refl _) (List.sublist_append_right _ _))
    have hXz : ((zb, Obj.cells zc214 214 (0, 0)) :: (Lpj ++ R.set i (b, Obj.cells (cs.setIfInBounds off (.slice ag j cap)) E fr)))[(Lpj.length + i) + 1]? = some (b, .cells (cs.setIfInBounds off (.slice ag j cap)) E fr) := get_app (A := Lpj) (get_set_self hR _)
    refine WC_draw_sub (id := 9) 8 (.calm 0 <| .calm 1 <| .calm 2 <| .calm 3 <| .calm 4 <| .must 5 <| .must 6 <| .calm 7 <| .must 8 <| .done) mixed (by kernel_rfl) (hsub) ?_
    repeat (first | refine RQr ?_ | (refine RX ?_; (first | refine QW_of (Qt_nilCheck_m rfl) ?_)) | ((first | refine WL_op rfl ?_ | refine WR_late rfl rfl rfl ?_ | refine WR_op rfl rfl ?_); (first | (refine OE ?_; try intro _)); try refine SD ?_) | refine RC ?_ | refine RU ?_ | refine WC_draw_all (id := 9) 8 (.calm 0 <| .calm 1 <| .calm 2 <| .calm 3 <| .calm 4 <| .must 5 <| .must 6 <| .calm 7 <| .must 8 <| .done) mixed (by kernel_rfl) ?_ | refine WG 0 ?_ | refine WG 1 ?_ | refine WG 2 ?_ | refine WG 3 ?_ | refine WG 4 ?_ | refine WG 5 ?_ | refine WG 6 ?_ | refine WG 7 ?_ | refine WG 8 ?_ | refine WG 11 ?_)
    rename_i qb
    refine WR_op rfl rfl (OW_append_buf (A := (qb, Obj.cells zc214 214 (0, 0)) :: (zb, Obj.cells zc214 214 (0, 0)) :: Lpj) rfl rfl rfl rfl rfl hbuf (zEnt_src 0 rfl) (by omega) (by simp only [maxLen]; omega) (by omega) fun v' T' hb' => ?_)
    obtain ⟨g', goff, gcur, ⟨gcap, rfl, hown⟩, rfl⟩ := hb'.full' (by omega)
    refine ⟨sub_mem (show ((zb, Obj.cells zc214 214 (0, 0)) :: (Lpj ++ R.set i (b, Obj.cells (cs.setIfInBounds off (.slice ag j cap)) E fr))).Sublist ((qb, Obj.cells zc214 214 (0, 0)) :: (zb, Obj.cells zc214 214 (0, 0)) :: (Lpj ++ ([(g', Obj.cells gcur 214 (0, 0))] ++ R.set i (b, Obj.cells (cs.setIfInBounds off (.slice ag j cap)) E fr)))) from .cons _ (.cons_cons _ (.append (.refl _) (List.sublist_append_right _ _)))), ?_⟩
    repeat (first | refine RQr ?_ | (refine RX ?_; (first | refine QW_of (Qt_nilCheck_m rfl) ?_)) | ((first | refine WL_op rfl ?_ | refine WR_late rfl rfl rfl ?_ | refine WR_op rfl rfl ?_); (first | (refine OE ?_; try intro _)); try refine SD ?_) | refine RC ?_ | refine RU ?_ | refine WC_draw_all (id := 9) 8 (.calm 0 <| .calm 1 <| .calm 2 <| .calm 3 <| .calm 4 <| .must 5 <| .must 6 <| .calm 7 <| .must 8 <| .done) mixed (by kernel_rfl) ?_ | refine WG 0 ?_ | refine WG 1 ?_ | refine WG 2 ?_ | refine WG 3 ?_ | refine WG 4 ?_ | refine WG 5 ?_ | refine WG 6 ?_ | refine WG 7 ?_ | refine WG 8 ?_ | refine WG 11 ?_)
    have hXn : ((qb, Obj.cells zc214 214 (0, 0)) :: (zb, Obj.cells zc214 214 (0, 0)) :: (Lpj ++ ([(g', Obj.cells gcur 214 (0, 0))] ++ R.set i (b, Obj.cells (cs.setIfInBounds off (.slice ag j cap)) E fr))))[(Lpj.length + (1 + i)) + 2]? = some (b, .cells (cs.setIfInBounds off (.slice ag j cap)) E fr) := get_app (A := Lpj) (get_app (A := [(g', Obj.cells gcur 214 (0, 0))]) (get_set_self hR _))
    refine WR_late rfl rfl rfl (OW_store1F (v := .slice (some ⟨g', goff, none⟩) (j + 1) gcap) rfl _ hXn (by simpa using hz) hfr (WR_nil ?_))
    have hL : ((qb, Obj.cells zc214 214 (0, 0)) :: (zb, Obj.cells zc214 214 (0, 0)) :: (Lpj ++ ([(g', Obj.cells gcur 214 (0, 0))] ++ R.set i (b, Obj.cells (cs.setIfInBounds off (.slice ag j cap)) E fr)))).set ((Lpj.length + (1 + i)) + 2) (b, Obj.cells ((cs.setIfInBounds off (.slice ag j cap)).setIfInBounds off (.slice (some ⟨g', goff, none⟩) (j + 1) gcap)) E fr) = (qb, Obj.cells zc214 214 (0, 0)) :: (zb, Obj.cells zc214 214 (0, 0)) :: (Lpj ++ ([(g', Obj.cells gcur 214 (0, 0))] ++ R.set i (b, Obj.cells (cs.setIfInBounds off (.slice (some ⟨g', goff, none⟩) (j + 1) gcap)) E fr))) := by
      rw [List.set_cons_succ, List.set_cons_succ, set_app, show 1 + i = [(g', Obj.cells gcur 214 (0, 0))].length + i from rfl, set_app, List.set_set, set_twice]
    have hsubL := ((List.Sublist.refl (Lpj ++ ([(g', Obj.cells gcur 214 (0, 0))] ++ R.set i (b, Obj.cells (cs.setIfInBounds off (.slice (some ⟨g', goff, none⟩) (j + 1) gcap)) E fr)))).cons (zb, Obj.cells zc214 214 (0, 0))).cons (qb, Obj.cells zc214 214 (0, 0))
    rw [← hL] at hsubL
    repeat (first | refine RQr ?_ | (refine RX ?_; (first | refine QW_of (Qt_nilCheck_m rfl) ?_)) | (refine OX ?_; (first | (refine OE ?_; try intro _)); try refine SD ?_) | refine RC ?_ | refine RU ?_ | refine WC_draw_all (id := 9) 8 (.calm 0 <| .calm 1 <| .calm 2 <| .calm 3 <| .calm 4 <| .must 5 <| .must 6 <| .calm 7 <| .must 8 <| .done) mixed (by kernel_rfl) ?_ | refine WG 0 ?_ | refine WG 1 ?_ | refine WG 2 ?_ | refine WG 3 ?_ | refine WG 4 ?_ | refine WG 5 ?_ | refine WG 6 ?_ | refine WG 7 ?_ | refine WG 8 ?_ | refine WG 11 ?_)
    refine WC_dropL _ hsubL ?_
    have hvn : (cs.setIfInBounds off (.slice (some ⟨g', goff, none⟩) (j + 1) gcap))[off]? = some (.slice (some ⟨g', goff, none⟩) (j + 1) gcap) := by rw [Array.getElem?_setIfInBounds_self_of_lt hz]
    have hXm := get_app (A := Lpj) (get_app (A := [(g', Obj.cells gcur 214 (0, 0))]) (get_set_self hR (b, Obj.cells (cs.setIfInBounds off (.slice (some ⟨g', goff, none⟩) (j + 1) gcap)) E fr)))
    repeat (first | refine RQr ?_ | (refine RX ?_; (first | refine QW_of (Qt_nilCheck_m rfl) ?_)) | (refine OX ?_; (first | (refine OE ?_; try intro _)); try refine SD ?_) | refine RC ?_ | refine RU ?_ | refine WC_draw_all (id := 9) 8 (.calm 0 <| .calm 1 <| .calm 2 <| .calm 3 <| .calm 4 <| .must 5 <| .must 6 <| .calm 7 <| .must 8 <| .done) mixed (by kernel_rfl) ?_ | refine WC_region ?_)
    refine WL_op rfl ?_
    have hfl : vssj.flatten.length = j * 10 := hbuf.len
    have hlz : Lies gcur (goff + j * 10) zEnt := fun q v hq => by
      have := hown.at_ (j * 10 + q) v (by rw [List.getElem?_append_right (by omega), hfl, show j * 10 + q - j * 10 = q by omega]; exact hq)
      rwa [← Nat.add_assoc] at this
    have hC := entry_flat (getM hl9) sj Lpj ([(g', Obj.cells gcur 214 (0, 0))] ++ R.set i (b, Obj.cells (cs.setIfInBounds off (.slice (some ⟨g', goff, none⟩) (j + 1) gcap)) E fr)) 0 g' gcur 214 (0, 0) (goff + j * 10) zEnt hMj (fun q hq => by cases hq) trivial rfl zEnt_ok hlz (Free.zero _ _)
    refine OW_callE rfl (hC.dropP (Rp' := fun u L' => ∃ c a p s' Lp', prs l entryF sj.1 = .bad c a ∧ u = flt p ∧ L' = (p, fltO c a) :: (Lp' ++ R.set i (b, Obj.cells (cs.setIfInBounds off (.slice (some ⟨g', goff, none⟩) (j + 1) gcap)) E fr)) ∧ GMem gb rb l s' Lp') (fun u L' ⟨c, a, p, s', Lp', cur', h1, h2, h3, h4, _⟩ => ⟨(p, fltO c a) :: (Lp' ++ R.set i (b, Obj.cells (cs.setIfInBounds off (.slice (some ⟨g', goff, none⟩) (j + 1) gcap)) E fr)), by rw [h3]; exact .cons_cons _ (.append (.refl _) (.cons _ (.refl _))), c, a, p, s', Lp', get_stps_bad zEnt_ok h1, h2, rfl, h4⟩)) ?_ ?_
    rotate_left
    · rintro _ _ ⟨c, a, p, s', Lp', h1, rfl, rfl, h4⟩
      exact ⟨_, rfl, c, a, p, s', Lp', cs.setIfInBounds off (.slice (some ⟨g', goff, none⟩) (j + 1) gcap), prn_stop hp hlt h1, rfl, rfl, h4, by simp⟩
    rintro _ _ ⟨rfl, s', us, Lp', cur', h1, rfl, h3, h4, _⟩
    have e := get_stps_ok zEnt_ok h1
    have hul : us.length = 10 := (getW gb rb l).stps_len h1 zEnt_ok
    repeat (first | refine RQr ?_ | (refine RX ?_; (first | refine QW_of (Qt_nilCheck_m rfl) ?_)) | (refine OX ?_; (first | (refine OE ?_; try intro _)); try refine SD ?_) | refine RC ?_ | refine RU ?_ | refine WC_draw_all (id := 9) 8 (.calm 0 <| .calm 1 <| .calm 2 <| .calm 3 <| .calm 4 <| .must 5 <| .must 6 <| .calm 7 <| .must 8 <| .done) mixed (by kernel_rfl) ?_ | refine WC_region ?_)
    rw [hwj]
    exact ⟨_, _, by omega, ⟨j + 1, s', Lp', [(g', Obj.cells cur' 214 (0, 0))], .slice (some ⟨g', goff, none⟩) (j + 1) gcap, vssj ++ [us], rfl, by omega, h3, .inr ⟨g', goff, gcap, cur', rfl, rfl, by
      have := own_upd hown hfl h4 hul
      simpa using this⟩, by simp [hvl], prn_step hp hlt e, rfl⟩, ⟨rfl, rfl, rfl, rfl, rfl, trivial⟩, rfl, .refl _⟩
  · have d1 : decide (((j : Nat) : Int) < ((n : Nat) : Int)) = false := decide_eq_false (by omega)
    have hjn : n - j = 0 := by omega
    rw [hjn] at hp
    have hp' : prn l entryF n s2.1 = .ok vssj sj.1 := by rw [hp]; simp [prn, PR.bind]
    subst hvl
    repeat (first | refine RQr ?_ | (refine RX ?_; (first | refine QW_of (Qt_nilCheck_m rfl) ?_)) | (refine OX ?_; (first | (refine OE ?_; try intro _)); try refine SD ?_) | refine RC ?_ | refine RU ?_ | refine WC_draw_all (id := 9) 8 (.calm 0 <| .calm 1 <| .calm 2 <| .calm 3 <| .calm 4 <| .must 5 <| .must 6 <| .calm 7 <| .must 8 <| .done) mixed (by kernel_rfl) ?_ | refine WC_region ?_)
    exact ⟨_, _, Res0 rfl, .refl _, rfl, vssj, sj, Lpj, vj, Tj, hp', rfl, hMj, hbuf⟩
end Go.Proofs.YtdiaogcogkapgaaGreatDoor
