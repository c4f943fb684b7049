/-
  A part of what the last of these texts needs; by itself it proves no statement.
-/
import Derived.LoopNIn
import Derived.Test.YtgimodceldoniaaGreatDoorKN7
namespace Go.Proofs.YtgimodceldoniaaGreatDoor
open Go.RowKit
attribute [local irreducible] Fn WC WL WR OW Qt YieldFn QW FnP FnD FnE
def Elems (R : List (Nat × Obj)) (a : Option Addr) (n : Nat) (vss : List (List Value)) : Prop :=
  vss = [] ∨ ∃ (be eo ie : Nat) (ec : Array Value) (EE : TypeId) (ef : Nat × Nat), a = some ⟨be, eo, none⟩ ∧ R[ie]? = some (be, .cells ec EE ef) ∧ ∀ j vs, vss[j]? = some vs → Lies ec (eo + j * n) vs ∧ Free ef (eo + j * n) n
abbrev putV (pb : Nat) : Value := .iface 107 (.pointer (some ⟨pb, 0, none⟩))
section
variable {pb : Nat} {T0 : List (Nat × Obj)} {n0 : Nat}
set_option maxHeartbeats 4000000 in
theorem plist_int {bs : List UInt8} {Lp R : List (Nat × Obj)} {i b : Nat} {cs : Array Value} {E : TypeId} {fr : Nat × Nat} {off : Nat} {a : Option Addr} {cap : Nat} {vss : List (List Value)} {most : Int} (hM : PMem pb T0 n0 bs Lp) (hT : ∀ q ∈ T0, q ∈ R) (hn : vss.length ≤ 1000000) (hroom : bs.length + 10 + 10 * vss.length ≤ 1000000000) (hR : R[i]? = some (b, .cells cs E fr)) (hc : cs[off]? = some (.slice a vss.length cap)) (he : Elems R a 1 vss) (ho : ∀ vs ∈ vss, Oks binF vs) :
    Fn Tryz.prog 54 [putV pb, .pointer (some ⟨b, off, none⟩), .int .i64 most, .func (.func 44) #[] #[]] (Lp ++ R) (fun v L' => v = .tuple #[] ∧ ∃ Lp', L' = Lp' ++ R ∧ PMem pb T0 n0 (bs ++ encl binF vss) Lp') := by
  have ih := (putM pb T0 n0).ih
  have jn := (putM pb T0 n0).jn
  have im := (putM pb T0 n0).im
  have hX := get_app (A := Lp) hR
  have hw : IntKind.u64.wrap ((vss.length : Nat) : Int) = ((vss.length : Nat) : Int) := wU64 (by omega) (by omega)
  refine Fn_enter Tryz.func54 rfl Tryz.ntmps54 rfl fun g => ?_
  repeat (first | refine RQ ?_ | (refine WL_Q ?_; (first | refine QW_of (Qt_nilCheck_m rfl) ?_)) | (refine RE ?_; try intro _) | refine RC ?_ | refine WC_region ?_)
  refine WL_op rfl ?_
  refine OW_invE (putM pb T0 n0).mh rfl (put_here bs Lp R hM) ?_ (fun _ _ h => h.elim)
  rintro _ _ ⟨rfl, Lp1, rfl, hM1⟩
  have hX1 := get_app (A := Lp1) hR
  repeat (first | refine RQ ?_ | (refine WL_Q ?_; (first | refine QW_of (Qt_nilCheck_m rfl) ?_)) | (refine RE ?_; try intro _) | refine RC ?_ | refine WG 0 ?_ | refine WG 1 ?_ | refine WG 3 ?_ | refine WG 4 ?_ | refine WG 5 ?_ | refine WG 6 ?_ | refine WG 7 ?_ | refine WG 8 ?_ | refine WG 9 ?_ | refine WG 10 ?_ | refine WG 11 ?_)
  rw [hw]
  repeat (first | refine RQ ?_ | (refine WL_Q ?_; (first | refine QW_of (Qt_nilCheck_m rfl) ?_)) | (refine RE ?_; try intro _) | refine RC ?_ | refine WC_region ?_)
  rename_i mb
  refine WL_op rfl ?_
  refine OW_locI (c := ⟨Tryz.prog, g, _, _, _⟩) (W := putW pb T0 n0) (k := .nn) (s := bs) (putM pb T0 n0).mn (putM pb T0 n0).cn hM1 hT (show bs.length + 10 * 1 ≤ 1000000000 by omega) ⟨_, rfl, by omega, by omega⟩ rfl ?_ (fun c a p s' Lp' h => by cases h)
  intro s' x' Lp2 hs hM2
  cases hs
  repeat (first | refine RQ ?_ | (refine WL_Q ?_; (first | refine QW_of (Qt_nilCheck_m rfl) ?_)) | (refine RE ?_; try intro _) | refine RC ?_ | refine WC_region ?_)
  refine WL_op rfl ?_
  refine OW_invE (putM pb T0 n0).mm rfl (put_must (_ :: Lp2) R _ 4) ?_ (fun _ _ h => h.elim)
  rintro _ _ ⟨rfl, rfl⟩
  rw [List.cons_append]
  repeat (first | refine RQ ?_ | (refine WL_Q ?_; (first | refine QW_of (Qt_nilCheck_m rfl) ?_)) | (refine RE ?_; try intro _) | refine RC0 ?_ | refine WC_block (id := 1) ?_ | refine WC_region ?_)
  have hM2 : PMem pb T0 n0 (bs ++ enc vss.length) Lp2 := by
    have e : bs ++ Fk.enc .nn (.int .u64 (vss.length : Nat)) = bs ++ enc vss.length := by show bs ++ enc ((vss.length : Nat) : Int).toNat = _; rw [Int.toNat_natCast]
    rw [← e]; exact hM2
  refine WC_block (WC_wk [(27, .int .u64 0), (26, .int .u64 (vss.length : Nat)), (0, putV pb), (1, .pointer (some ⟨b, off, none⟩)), (3, .func (.func 44) #[] #[])] ⟨rfl, rfl, rfl, rfl, rfl, trivial⟩ ?_)
  refine WC_dropL (Lp2 ++ R) (.cons _ (.refl _)) ?_
  have hel := enc_len (n := vss.length) (by omega)
  refine WC_loop (fun m σ => ∃ j Lpj, m = vss.length - j ∧ j ≤ vss.length ∧ PMem pb T0 n0 (bs ++ enc vss.length ++ (vss.take j).flatMap (encs binF)) Lpj ∧ σ = ⟨[(27, .int .u64 (j : Nat)), (26, .int .u64 (vss.length : Nat)), (0, putV pb), (1, .pointer (some ⟨b, off, none⟩)), (3, .func (.func 44) #[] #[])], [], Lpj ++ R⟩) vss.length ⟨0, Lp2, by omega, by omega, by simpa using hM2, rfl⟩ ?_
  rintro m σ ⟨j, Lpj, rfl, hj, hMj, rfl⟩
  by_cases hlt : j < vss.length
  · have d1 : decide (((j : Nat) : Int) < ((vss.length : Nat) : Int)) = true := decide_eq_true (by omega)
    have d2 : (((j : Nat) : Int) == IntKind.u64.wrap ((vss.length : Nat) : Int)) = false := by rw [hw]; simp; omega
    have hXj := get_app (A := Lpj) hR
    obtain ⟨vs, hvs⟩ : ∃ vs, vss[j]? = some vs := ⟨_, List.getElem?_eq_getElem hlt⟩
    rcases he with he | ⟨be, eo, ie, ec, EE, ef, rfl, hRe, hat⟩
    · rw [he] at hlt; simp at hlt
    obtain ⟨hl, hf⟩ := hat j vs hvs
    have hov := ho vs (List.mem_of_getElem? hvs)
    have i1 : ((j : Nat) : Int) < ((vss.length : Nat) : Int) := by omega
    have hrm : (bs ++ enc vss.length ++ (vss.take j).flatMap (encs binF)).length + 10 * binF.length ≤ 1000000000 := by
      have h1 := encn_len (es := binF) (vss := vss.take j) fun vs hv => ho vs (List.mem_of_mem_take hv)
      have h2 : (vss.take j).length = j := by rw [List.length_take]; omega
      rw [h2, show binF.length = 1 from rfl] at h1
      rw [List.length_append, List.length_append, show binF.length = 1 from rfl]
      omega
    have hwj : IntKind.u64.wrap (((j : Nat) : Int) + 1) = ((j + 1 : Nat) : Int) := by rw [wU64 (by omega) (by omega)]; omega
    repeat (first | refine RQ ?_ | (refine WL_Q ?_; (first | refine QW_of (Qt_nilCheck_m rfl) ?_)) | (refine RE ?_; try intro _) | refine RC ?_ | refine WC_region ?_)
    refine WL_op rfl ?_
    refine OW_callE rfl (FnE.ofFn (Rp := fun _ _ => False) (putF (small_flat (putM pb T0 n0)) hMj hT hrm hRe hov hl hf)) ?_ (fun _ _ h => h.elim)
    rintro _ _ ⟨rfl, Lp', rfl, hM'⟩
    repeat (first | refine RQ ?_ | (refine WL_Q ?_; (first | refine QW_of (Qt_nilCheck_m rfl) ?_)) | (refine RE ?_; try intro _) | refine RC ?_ | refine WC_region ?_)
    rw [hwj]
    refine ⟨_, _, by omega, ⟨j + 1, Lp', rfl, by omega, ?_, rfl⟩, ⟨rfl, rfl, rfl, rfl, rfl, trivial⟩, rfl, .refl _⟩
    rw [List.take_add_one, hvs, List.flatMap_append, ← List.append_assoc]
    simpa using hM'
  · have d1 : decide (((j : Nat) : Int) < ((vss.length : Nat) : Int)) = false := decide_eq_false (by omega)
    obtain rfl : j = vss.length := by omega
    rw [List.take_length, List.append_assoc] at hMj
    repeat (first | refine RQ ?_ | (refine WL_Q ?_; (first | refine QW_of (Qt_nilCheck_m rfl) ?_)) | (refine RE ?_; try intro _) | refine RC ?_ | refine WC_region ?_)
    exact ⟨rfl, _, _, Res0 rfl, .refl _, rfl, Lpj, rfl, hMj⟩
set_option maxHeartbeats 4000000 in
theorem plist_entry {bs : List UInt8} {Lp R : List (Nat × Obj)} {i b : Nat} {cs : Array Value} {E : TypeId} {fr : Nat × Nat} {off : Nat} {a : Option Addr} {cap : Nat} {vss : List (List Value)} {most : Int} (hM : PMem pb T0 n0 bs Lp) (hT : ∀ q ∈ T0, q ∈ R) (hn : vss.length ≤ 1000000) (hroom : bs.length + 10 + 100 * vss.length ≤ 1000000000) (hR : R[i]? = some (b, .cells cs E fr)) (hc : cs[off]? = some (.slice a vss.length cap)) (he : Elems R a 10 vss) (ho : ∀ vs ∈ vss, Oks entryF vs) :
    Fn Tryz.prog 56 [putV pb, .pointer (some ⟨b, off, none⟩), .int .i64 most, .func (.func 57) #[] #[]] (Lp ++ R) (fun v L' => v = .tuple #[] ∧ ∃ Lp', L' = Lp' ++ R ∧ PMem pb T0 n0 (bs ++ encl entryF vss) Lp') := by
  have ih := (putM pb T0 n0).ih
  have jn := (putM pb T0 n0).jn
  have im := (putM pb T0 n0).im
  have hX := get_app (A := Lp) hR
  have hw : IntKind.u64.wrap ((vss.length : Nat) : Int) = ((vss.length : Nat) : Int) := wU64 (by omega) (by omega)
  refine Fn_enter Tryz.func56 rfl Tryz.ntmps56 rfl fun g => ?_
  repeat (first | refine RQr ?_ | (refine RX ?_; (first | refine QW_of (Qt_nilCheck_m rfl) ?_)) | (refine OX ?_; (first | (refine OE ?_; try intro _)); try refine SD ?_) | refine RC ?_ | refine RU ?_ | refine WC_draw_all (id := 9) 8 (Cs [0,1,2,3,4] <| .must 5 <| .must 6 <| .calm 7 <| .must 8 <| .done) mixed (by kernel_rfl) ?_ | refine WC_region ?_)
  refine WL_op rfl ?_
  refine OW_invE (putM pb T0 n0).mh rfl (put_here bs Lp R hM) ?_ (fun _ _ h => h.elim)
  rintro _ _ ⟨rfl, Lp1, rfl, hM1⟩
  have hX1 := get_app (A := Lp1) hR
  repeat (first | refine RQr ?_ | (refine RX ?_; (first | refine QW_of (Qt_nilCheck_m rfl) ?_)) | (refine OX ?_; (first | (refine OE ?_; try intro _)); try refine SD ?_) | refine RC ?_ | refine RU ?_ | refine WC_draw_all (id := 9) 8 (Cs [0,1,2,3,4] <| .must 5 <| .must 6 <| .calm 7 <| .must 8 <| .done) mixed (by kernel_rfl) ?_ | refine WG 0 ?_ | refine WG 1 ?_ | refine WG 3 ?_ | refine WG 4 ?_ | refine WG 5 ?_ | refine WG 6 ?_ | refine WG 7 ?_ | refine WG 8 ?_ | refine WG 10 ?_ | refine WG 11 ?_)
  rw [hw]
  repeat (first | refine RQr ?_ | (refine RX ?_; (first | refine QW_of (Qt_nilCheck_m rfl) ?_)) | (refine OX ?_; (first | (refine OE ?_; try intro _)); try refine SD ?_) | refine RC ?_ | refine RU ?_ | refine WC_draw_all (id := 9) 8 (Cs [0,1,2,3,4] <| .must 5 <| .must 6 <| .calm 7 <| .must 8 <| .done) mixed (by kernel_rfl) ?_ | refine WC_region ?_)
  rename_i mb
  refine WL_op rfl ?_
  refine OW_locI (c := ⟨Tryz.prog, g, _, _, _⟩) (W := putW pb T0 n0) (k := .nn) (s := bs) (putM pb T0 n0).mn (putM pb T0 n0).cn hM1 hT (show bs.length + 10 * 1 ≤ 1000000000 by omega) ⟨_, rfl, by omega, by omega⟩ rfl ?_ (fun c a p s' Lp' h => by cases h)
  intro s' x' Lp2 hs hM2
  cases hs
  repeat (first | refine RQr ?_ | (refine RX ?_; (first | refine QW_of (Qt_nilCheck_m rfl) ?_)) | (refine OX ?_; (first | (refine OE ?_; try intro _)); try refine SD ?_) | refine RC ?_ | refine RU ?_ | refine WC_draw_all (id := 9) 8 (Cs [0,1,2,3,4] <| .must 5 <| .must 6 <| .calm 7 <| .must 8 <| .done) mixed (by kernel_rfl) ?_ | refine WC_region ?_)
  refine WL_op rfl ?_
  refine OW_invE (putM pb T0 n0).mm rfl (put_must (_ :: Lp2) R _ 4) ?_ (fun _ _ h => h.elim)
  rintro _ _ ⟨rfl, rfl⟩
  rw [List.cons_append]
  repeat (first | refine RQr ?_ | (refine RX ?_; (first | refine QW_of (Qt_nilCheck_m rfl) ?_)) | (refine OX ?_; (first | (refine OE ?_; try intro _)); try refine SD ?_) | refine RC0 ?_ | refine RU ?_ | refine WC_block (id := 1) ?_ | refine WC_draw_all (id := 9) 8 (Cs [0,1,2,3,4] <| .must 5 <| .must 6 <| .calm 7 <| .must 8 <| .done) mixed (by kernel_rfl) ?_ | refine WC_region ?_)
  have hM2 : PMem pb T0 n0 (bs ++ enc vss.length) Lp2 := by
    have e : bs ++ Fk.enc .nn (.int .u64 (vss.length : Nat)) = bs ++ enc vss.length := by show bs ++ enc ((vss.length : Nat) : Int).toNat = _; rw [Int.toNat_natCast]
    rw [← e]; exact hM2
  refine WC_block (WC_wk [(27, .int .u64 0), (26, .int .u64 (vss.length : Nat)), (0, putV pb), (1, .pointer (some ⟨b, off, none⟩)), (3, .func (.func 57) #[] #[])] ⟨rfl, rfl, rfl, rfl, rfl, trivial⟩ ?_)
  refine WC_dropL (Lp2 ++ R) (.cons _ (.refl _)) ?_
  have hel := enc_len (n := vss.length) (by omega)
  refine WC_loop (fun m σ => ∃ j Lpj, m = vss.length - j ∧ j ≤ vss.length ∧ PMem pb T0 n0 (bs ++ enc vss.length ++ (vss.take j).flatMap (encs entryF)) Lpj ∧ σ = ⟨[(27, .int .u64 (j : Nat)), (26, .int .u64 (vss.length : Nat)), (0, putV pb), (1, .pointer (some ⟨b, off, none⟩)), (3, .func (.func 57) #[] #[])], [], Lpj ++ R⟩) vss.length ⟨0, Lp2, by omega, by omega, by simpa using hM2, rfl⟩ ?_
  rintro m σ ⟨j, Lpj, rfl, hj, hMj, rfl⟩
  by_cases hlt : j < vss.length
  · have d1 : decide (((j : Nat) : Int) < ((vss.length : Nat) : Int)) = true := decide_eq_true (by omega)
    have d2 : (((j : Nat) : Int) == IntKind.u64.wrap ((vss.length : Nat) : Int)) = false := by rw [hw]; simp; omega
    have hXj := get_app (A := Lpj) hR
    obtain ⟨vs, hvs⟩ : ∃ vs, vss[j]? = some vs := ⟨_, List.getElem?_eq_getElem hlt⟩
    rcases he with he | ⟨be, eo, ie, ec, EE, ef, rfl, hRe, hat⟩
    · rw [he] at hlt; simp at hlt
    obtain ⟨hl, hf⟩ := hat j vs hvs
    have hov := ho vs (List.mem_of_getElem? hvs)
    have i1 : ((j : Nat) : Int) < ((vss.length : Nat) : Int) := by omega
    have hrm : (bs ++ enc vss.length ++ (vss.take j).flatMap (encs entryF)).length + 10 * entryF.length ≤ 1000000000 := by
      have h1 := encn_len (es := entryF) (vss := vss.take j) fun vs hv => ho vs (List.mem_of_mem_take hv)
      have h2 : (vss.take j).length = j := by rw [List.length_take]; omega
      rw [h2, show entryF.length = 10 from rfl] at h1
      rw [List.length_append, List.length_append, show entryF.length = 10 from rfl]
      omega
    have hwj : IntKind.u64.wrap (((j : Nat) : Int) + 1) = ((j + 1 : Nat) : Int) := by rw [wU64 (by omega) (by omega)]; omega
    repeat (first | refine RQr ?_ | (refine RX ?_; (first | refine QW_of (Qt_nilCheck_m rfl) ?_)) | (refine OX ?_; (first | (refine OE ?_; try intro _)); try refine SD ?_) | refine RC ?_ | refine RU ?_ | refine WC_draw_all (id := 9) 8 (Cs [0,1,2,3,4] <| .must 5 <| .must 6 <| .calm 7 <| .must 8 <| .done) mixed (by kernel_rfl) ?_ | refine WC_region ?_)
    refine WL_op rfl ?_
    refine OW_callE rfl (FnE.ofFn (Rp := fun _ _ => False) (putF (entry_flat (putM pb T0 n0)) hMj hT hrm hRe hov hl hf)) ?_ (fun _ _ h => h.elim)
    rintro _ _ ⟨rfl, Lp', rfl, hM'⟩
    repeat (first | refine RQr ?_ | (refine RX ?_; (first | refine QW_of (Qt_nilCheck_m rfl) ?_)) | (refine OX ?_; (first | (refine OE ?_; try intro _)); try refine SD ?_) | refine RC ?_ | refine RU ?_ | refine WC_draw_all (id := 9) 8 (Cs [0,1,2,3,4] <| .must 5 <| .must 6 <| .calm 7 <| .must 8 <| .done) mixed (by kernel_rfl) ?_ | refine WC_region ?_)
    rw [hwj]
    refine ⟨_, _, by omega, ⟨j + 1, Lp', rfl, by omega, ?_, rfl⟩, ⟨rfl, rfl, rfl, rfl, rfl, trivial⟩, rfl, .refl _⟩
    rw [List.take_add_one, hvs, List.flatMap_append, ← List.append_assoc]
    simpa using hM'
  · have d1 : decide (((j : Nat) : Int) < ((vss.length : Nat) : Int)) = false := decide_eq_false (by omega)
    obtain rfl : j = vss.length := by omega
    rw [List.take_length, List.append_assoc] at hMj
    repeat (first | refine RQr ?_ | (refine RX ?_; (first | refine QW_of (Qt_nilCheck_m rfl) ?_)) | (refine OX ?_; (first | (refine OE ?_; try intro _)); try refine SD ?_) | refine RC ?_ | refine RU ?_ | refine WC_draw_all (id := 9) 8 (Cs [0,1,2,3,4] <| .must 5 <| .must 6 <| .calm 7 <| .must 8 <| .done) mixed (by kernel_rfl) ?_ | refine WC_region ?_)
    exact ⟨rfl, _, _, Res0 rfl, .refl _, rfl, Lpj, rfl, hMj⟩
end
end Go.Proofs.YtgimodceldoniaaGreatDoor
namespace Go.Proofs.YtgimodceldoniaaGreatDoor
open Go.RowKit
attribute [local irreducible] Fn WC WL WR OW Qt YieldFn QW FnP FnD FnE
theorem ok1 {k : Fk} {v : Value} (h : k.ok v) : Oks [k] [v] := ⟨h, trivial⟩
section
variable {pb : Nat} {T0 : List (Nat × Obj)} {n0 : Nat}
set_option maxHeartbeats 4000000 in
theorem pcmd {bs : List UInt8} {Lp R : List (Nat × Obj)} {i b : Nat} {cs : Array Value} {E : TypeId} {fr : Nat × Nat} {off : Nat} {a : Option Addr} {cap : Nat} {ch ct : List Value} {bins : List (List Value)} (hM : PMem pb T0 n0 bs Lp) (hT : ∀ q ∈ T0, q ∈ R) (hn : bins.length ≤ 1000000) (hroom : bs.length + 100 + 10 * bins.length ≤ 1000000000) (hR : R[i]? = some (b, .cells cs E fr)) (hch : Oks chF ch) (hct : Oks ctF ct) (hb : ∀ vs ∈ bins, Oks binF vs)
    (hl : Lies cs off (ch ++ (.slice a bins.length cap :: ct))) (he : Elems R a 1 bins) (hfr : Free fr off 10) :
    Fn Tryz.prog 46 [putV pb, .pointer (some ⟨b, off, none⟩)] (Lp ++ R) (fun v L' => v = .tuple #[] ∧ ∃ Lp', L' = Lp' ++ R ∧ PMem pb T0 n0 (bs ++ encCmd ch bins ct) Lp') := by
  obtain ⟨c0, us, rfl, h0, hch'⟩ := hch.split
  obtain ⟨c1, us, rfl, h1, hch''⟩ := hch'.split
  obtain rfl := hch''.nil
  obtain ⟨t0, us, rfl, k0, q⟩ := hct.split
  obtain ⟨t1, us, rfl, k1, q⟩ := q.split
  obtain ⟨t2, us, rfl, k2, q⟩ := q.split
  obtain ⟨t3, us, rfl, k3, q⟩ := q.split
  obtain ⟨t4, us, rfl, k4, q⟩ := q.split
  obtain ⟨t5, us, rfl, k5, q⟩ := q.split
  obtain ⟨t6, us, rfl, k6, q⟩ := q.split
  obtain rfl := q.nil
  have ih := (putM pb T0 n0).ih
  have jn := (putM pb T0 n0).jn
  have im := (putM pb T0 n0).im
  have iw := (putM pb T0 n0).iw
  have it := (putM pb T0 n0).it
  have qw : methX Tryz.prog 107 "anabranch/codec.whole" = some 95 := (putM pb T0 n0).mw
  have qt : methX Tryz.prog 107 "anabranch/codec.truth" = some 94 := (putM pb T0 n0).mt
  have qm : methX Tryz.prog 107 "anabranch/codec.must" = some 91 := (putM pb T0 n0).mm
  have e0 := enc_len_ok h0
  have e1 := enc_len_ok h1
  have e2 := encl_len hb hn
  have e3 := enc_len_ok k0
  have e4 := enc_len_ok k1
  have hop : Oks opF [t2, t3, t4, t5] := ⟨k2, k3, k4, k5, trivial⟩
  have e5 := encs_len hop
  have s1 : ∀ v : Value, encs [.ww] [v] = Fk.enc .ww v := fun v => by simp [encs]
  have e5' : (encs opF [t2, t3, t4, t5]).length ≤ 40 := e5
  have e2' : (encl binF bins).length ≤ 10 + 10 * bins.length := by simpa using e2
  refine Fn_enter Tryz.func46 rfl Tryz.ntmps46 rfl fun g => ?_
  repeat (first | refine RQ ?_ | (refine WL_Q ?_; (first | refine QW_of (Qt_nilCheck_m rfl) ?_)) | refine RC ?_ | refine WG 0 ?_)
  refine WL_op rfl ?_
  refine OW_callE rfl (FnE.ofFn (Rp := fun _ _ => False) (putF (fs := [.ww]) (small_flat (putM pb T0 n0)) hM hT (show bs.length + 10 * 1 ≤ 1000000000 by omega) hR (ok1 h0) (hl.cut 0 1) (hfr.sub 0 1 (by decide)))) ?_ (fun _ _ h => h.elim)
  rintro _ _ ⟨rfl, Lp0, rfl, hM0⟩
  repeat (first | refine RQ ?_ | (refine WL_Q ?_; (first | refine QW_of (Qt_nilCheck_m rfl) ?_)) | refine RC ?_ | refine WG 0 ?_)
  repeat (first | refine RQ ?_ | (refine WL_Q ?_; (first | refine QW_of (Qt_nilCheck_m rfl) ?_)) | refine RC ?_ | refine WG 0 ?_)
  refine WC_draw_sub (id := 1) 8 (Cs [0,1,2,3,4,5,6] <| .must 7 <| .done) mixed (by kernel_rfl) (List.nil_sublist _) ?_
  repeat (first | refine RQr ?_ | (refine RX ?_; (first | refine QW_of (Qt_nilCheck_m rfl) ?_)) | refine RC ?_ | refine RU ?_ | refine WC_draw_all (id := 1) 8 (Cs [0,1,2,3,4,5,6] <| .must 7 <| .done) mixed (by kernel_rfl) ?_ | refine WG 0 ?_)
  refine WR_op rfl rfl ?_
  refine OW_invE (putM pb T0 n0).mw rfl (FnE.ofFn (Rp := fun _ _ => False) (putF (fs := [.ww]) put_whole hM0 hT (show (bs ++ encs [.ww] [c0]).length + 10 * 1 ≤ 1000000000 by simp only [List.length_append, s1]; omega) hR (ok1 h1) (hl.cut 1 1) (hfr.sub 1 1 (by decide)))) ?_ (fun _ _ h => h.elim)
  rintro _ _ ⟨rfl, Lp1, rfl, hM1⟩
  refine ⟨(fun q hq => (by cases hq)), ?_⟩
  repeat (first | refine RQr ?_ | (refine RX ?_; (first | refine QW_of (Qt_nilCheck_m rfl) ?_)) | refine RC ?_ | refine RU ?_ | refine WC_draw_all (id := 1) 8 (Cs [0,1,2,3,4,5,6] <| .must 7 <| .done) mixed (by kernel_rfl) ?_ | refine WC_regB 3 ?_)
  refine WL_op rfl ?_
  refine OW_callE rfl (FnE.ofFn (Rp := fun _ _ => False) (plist_int (most := 8) hM1 hT hn (show (bs ++ encs [.ww] [c0] ++ encs [.ww] [c1]).length + 10 + 10 * bins.length ≤ 1000000000 by simp only [List.length_append, s1]; omega) hR ((hl.cut 2 1) 0 _ rfl) he hb)) ?_ (fun _ _ h => h.elim)
  rintro _ _ ⟨rfl, Lp2, rfl, hM2⟩
  repeat (first | refine RQ ?_ | (refine WL_Q ?_; (first | refine QW_of (Qt_nilCheck_m rfl) ?_)) | refine RC ?_ | refine WG 2 ?_ | refine WG 3 ?_)
  refine WL_op rfl ?_
  refine OW_callE rfl (FnE.ofFn (Rp := fun _ _ => False) (putF (fs := [.ww]) (small_flat (putM pb T0 n0)) hM2 hT (show (bs ++ encs [.ww] [c0] ++ encs [.ww] [c1] ++ encl binF bins).length + 10 * 1 ≤ 1000000000 by simp only [List.length_append, s1]; omega) hR (ok1 k0) (hl.cut 3 1) (hfr.sub 3 1 (by decide)))) ?_ (fun _ _ h => h.elim)
  rintro _ _ ⟨rfl, Lp3, rfl, hM3⟩
  repeat (first | refine RQ ?_ | (refine WL_Q ?_; (first | refine QW_of (Qt_nilCheck_m rfl) ?_)) | refine RC ?_ | refine WG 2 ?_ | refine WG 3 ?_ | refine WG 4 ?_)
  refine WL_op rfl ?_
  refine OW_callE rfl (FnE.ofFn (Rp := fun _ _ => False) (putF (fs := [.ww]) (small_flat (putM pb T0 n0)) hM3 hT (show (bs ++ encs [.ww] [c0] ++ encs [.ww] [c1] ++ encl binF bins ++ encs [.ww] [t0]).length + 10 * 1 ≤ 1000000000 by simp only [List.length_append, s1]; omega) hR (ok1 k1) (hl.cut 4 1) (hfr.sub 4 1 (by decide)))) ?_ (fun _ _ h => h.elim)
  rintro _ _ ⟨rfl, Lp4, rfl, hM4⟩
  repeat (first | refine RQ ?_ | (refine WL_Q ?_; (first | refine QW_of (Qt_nilCheck_m rfl) ?_)) | refine RC ?_ | refine WG 2 ?_ | refine WG 3 ?_ | refine WG 4 ?_ | refine WG 5 ?_)
  refine WL_op rfl ?_
  refine OW_callE rfl (FnE.ofFn (Rp := fun _ _ => False) (putF (fs := opF) (op_flat (putM pb T0 n0)) hM4 hT (show (bs ++ encs [.ww] [c0] ++ encs [.ww] [c1] ++ encl binF bins ++ encs [.ww] [t0] ++ encs [.ww] [t1]).length + 10 * 4 ≤ 1000000000 by simp only [List.length_append, s1]; omega) hR hop (hl.cut 5 4) (hfr.sub 5 4 (by decide)))) ?_ (fun _ _ h => h.elim)
  rintro _ _ ⟨rfl, Lp5, rfl, hM5⟩
  repeat (first | refine RQ ?_ | (refine WL_Q ?_; (first | refine QW_of (Qt_nilCheck_m rfl) ?_)) | refine RC ?_ | refine WG 2 ?_ | refine WG 3 ?_ | refine WG 4 ?_ | refine WG 5 ?_ | refine WG 6 ?_)
  refine WL_op rfl ?_
  refine OW_callE rfl (FnE.ofFn (Rp := fun _ _ => False) (putF (fs := [.ww]) (small_flat (putM pb T0 n0)) hM5 hT (show (bs ++ encs [.ww] [c0] ++ encs [.ww] [c1] ++ encl binF bins ++ encs [.ww] [t0] ++ encs [.ww] [t1] ++ encs opF [t2, t3, t4, t5]).length + 10 * 1 ≤ 1000000000 by simp only [List.length_append, s1]; omega) hR (ok1 k6) (hl.cut 9 1) (hfr.sub 9 1 (by decide)))) ?_ (fun _ _ h => h.elim)
  rintro _ _ ⟨rfl, Lp6, rfl, hM6⟩
  repeat (first | refine RQ ?_ | (refine WL_Q ?_; (first | refine QW_of (Qt_nilCheck_m rfl) ?_)) | refine RC ?_ | refine WG 2 ?_ | refine WG 3 ?_ | refine WG 4 ?_ | refine WG 5 ?_ | refine WG 6 ?_)
  refine ⟨rfl, _, _, Res0 rfl, .refl _, rfl, Lp6, rfl, ?_⟩
  have e : bs ++ encCmd [c0, c1] bins [t0, t1, t2, t3, t4, t5, t6] = (bs ++ encs [.ww] [c0] ++ encs [.ww] [c1] ++ encl binF bins ++ encs [.ww] [t0] ++ encs [.ww] [t1] ++ encs opF [t2, t3, t4, t5]) ++ encs [.ww] [t6] := by simp [encCmd, encs]
  rw [e]; exact hM6
set_option maxHeartbeats 4000000 in
theorem pchunk {bs : List UInt8} {Lp R : List (Nat × Obj)} {i b : Nat} {cs : Array Value} {E : TypeId} {fr : Nat × Nat} {off : Nat} {a : Option Addr} {cap : Nat} {kh : List Value} {ents : List (List Value)} (hM : PMem pb T0 n0 bs Lp) (hT : ∀ q ∈ T0, q ∈ R) (hn : ents.length ≤ 1000000) (hroom : bs.length + 100 + 100 * ents.length ≤ 1000000000) (hR : R[i]? = some (b, .cells cs E fr)) (hkh : Oks khF kh) (hb : ∀ vs ∈ ents, Oks entryF vs)
    (hl : Lies cs off (kh ++ [.slice a ents.length cap])) (he : Elems R a 10 ents) (hfr : Free fr off 4) :
    Fn Tryz.prog 47 [putV pb, .pointer (some ⟨b, off, none⟩)] (Lp ++ R) (fun v L' => v = .tuple #[] ∧ ∃ Lp', L' = Lp' ++ R ∧ PMem pb T0 n0 (bs ++ encChunk kh ents) Lp') := by
  obtain ⟨c0, us, rfl, h0, q⟩ := hkh.split
  obtain ⟨c1, us, rfl, h1, q⟩ := q.split
  obtain ⟨c2, us, rfl, h2, q⟩ := q.split
  obtain rfl := q.nil
  have ih := (putM pb T0 n0).ih
  have jn := (putM pb T0 n0).jn
  have im := (putM pb T0 n0).im
  have iw := (putM pb T0 n0).iw
  have it := (putM pb T0 n0).it
  have qw : methX Tryz.prog 107 "anabranch/codec.whole" = some 95 := (putM pb T0 n0).mw
  have qt : methX Tryz.prog 107 "anabranch/codec.truth" = some 94 := (putM pb T0 n0).mt
  have qm : methX Tryz.prog 107 "anabranch/codec.must" = some 91 := (putM pb T0 n0).mm
  have e0 := enc_len_ok h0
  have e1 := enc_len_ok h1
  have e2 := enc_len_ok h2
  have s1 : ∀ (k : Fk) (v : Value), encs [k] [v] = k.enc v := fun k v => by simp [encs]
  refine Fn_enter Tryz.func47 rfl Tryz.ntmps47 rfl fun g => ?_
  repeat (first | refine RQ ?_ | (refine WL_Q ?_; (first | refine QW_of (Qt_nilCheck_m rfl) ?_)) | refine RC ?_ | refine WG 0 ?_)
  refine WL_op rfl ?_
  refine OW_callE rfl (FnE.ofFn (Rp := fun _ _ => False) (putF (fs := [.ww]) (small_flat (putM pb T0 n0)) hM hT (show bs.length + 10 * 1 ≤ 1000000000 by omega) hR (ok1 h0) (hl.cut 0 1) (hfr.sub 0 1 (by decide)))) ?_ (fun _ _ h => h.elim)
  rintro _ _ ⟨rfl, Lp0, rfl, hM0⟩
  repeat (first | refine RQ ?_ | (refine WL_Q ?_; (first | refine QW_of (Qt_nilCheck_m rfl) ?_)) | refine RC ?_ | refine WC_regB 2 ?_)
  refine WL_op rfl ?_
  refine OW_callE rfl (FnE.ofFn (Rp := fun _ _ => False) (putF (fs := [.ww]) (small_flat (putM pb T0 n0)) hM0 hT (show (bs ++ encs [.ww] [c0]).length + 10 * 1 ≤ 1000000000 by simp only [List.length_append, s1]; omega) hR (ok1 h1) (hl.cut 1 1) (hfr.sub 1 1 (by decide)))) ?_ (fun _ _ h => h.elim)
  rintro _ _ ⟨rfl, Lp1, rfl, hM1⟩
  repeat (first | refine RQ ?_ | (refine WL_Q ?_; (first | refine QW_of (Qt_nilCheck_m rfl) ?_)) | refine RC ?_ | refine WC_regB 2 ?_)
  repeat (first | refine RQ ?_ | (refine WL_Q ?_; (first | refine QW_of (Qt_nilCheck_m rfl) ?_)) | refine RC ?_ | refine WC_regB 2 ?_)
  refine WC_draw_sub (id := 2) 8 (Cs [0,1,2,3,4,5,6] <| .must 7 <| .done) mixed (by kernel_rfl) (List.nil_sublist _) ?_
  repeat (first | refine RQr ?_ | (refine RX ?_; (first | refine QW_of (Qt_nilCheck_m rfl) ?_)) | refine RC ?_ | refine RU ?_ | refine WC_draw_all (id := 2) 8 (Cs [0,1,2,3,4,5,6] <| .must 7 <| .done) mixed (by kernel_rfl) ?_ | refine WC_regB 3 ?_)
  refine WR_op rfl rfl ?_
  refine OW_invE (putM pb T0 n0).mt rfl (FnE.ofFn (Rp := fun _ _ => False) (putF (fs := [.tt]) put_truth hM1 hT (show (bs ++ encs [.ww] [c0] ++ encs [.ww] [c1]).length + 10 * 1 ≤ 1000000000 by simp only [List.length_append, s1]; omega) hR (ok1 h2) (hl.cut 2 1) (hfr.sub 2 1 (by decide)))) ?_ (fun _ _ h => h.elim)
  rintro _ _ ⟨rfl, Lp2, rfl, hM2⟩
  refine ⟨(fun q hq => (by cases hq)), ?_⟩
  repeat (first | refine RQr ?_ | (refine RX ?_; (first | refine QW_of (Qt_nilCheck_m rfl) ?_)) | refine RC ?_ | refine RU ?_ | refine WC_draw_all (id := 2) 8 (Cs [0,1,2,3,4,5,6] <| .must 7 <| .done) mixed (by kernel_rfl) ?_ | refine WC_region ?_)
  refine WL_op rfl ?_
  refine OW_callE rfl (FnE.ofFn (Rp := fun _ _ => False) (plist_entry (most := 64) hM2 hT hn (show (bs ++ encs [.ww] [c0] ++ encs [.ww] [c1] ++ encs [.tt] [c2]).length + 10 + 100 * ents.length ≤ 1000000000 by simp only [List.length_append, s1]; omega) hR ((hl.cut 3 1) 0 _ rfl) he hb)) ?_ (fun _ _ h => h.elim)
  rintro _ _ ⟨rfl, Lp3, rfl, hM3⟩
  repeat (first | refine RQ ?_ | (refine WL_Q ?_; (first | refine QW_of (Qt_nilCheck_m rfl) ?_)) | refine RC ?_ | refine WG 0 ?_ | refine WG 1 ?_ | refine WG 3 ?_)
  refine ⟨rfl, _, _, Res0 rfl, .refl _, rfl, Lp3, rfl, ?_⟩
  have e : bs ++ encChunk [c0, c1, c2] ents = (bs ++ encs [.ww] [c0] ++ encs [.ww] [c1] ++ encs [.tt] [c2]) ++ encl entryF ents := by simp [encChunk, encs]
  rw [e]; exact hM3
def MV.cells (m : MV) (a : Option Addr) (cap : Nat) (a' : Option Addr) (cap' : Nat) : List Value :=
  [.int .i64 m.kind, .int .i64 m.ver] ++ (m.rc ++ ([.int .i64 m.time, .int .i64 m.num] ++ ((m.ch ++ (.slice a m.bins.length cap :: m.ct)) ++ (m.kh ++ [.slice a' m.ents.length cap']))))
theorem MV.cells_at {m : MV} (h : m.Ok) {cs : Array Value} {off : Nat} {a : Option Addr} {cap : Nat} {a' : Option Addr} {cap' : Nat} (hl : Lies cs off (m.cells a cap a' cap')) :
    cs[off + 0]? = some (.int .i64 m.kind) ∧ cs[off + 1]? = some (.int .i64 m.ver) ∧ Lies cs (off + 2) m.rc ∧ cs[off + 8]? = some (.int .i64 m.time) ∧ cs[off + 9]? = some (.int .i64 m.num) ∧ Lies cs (off + 10) (m.ch ++ (.slice a m.bins.length cap :: m.ct)) ∧ Lies cs (off + 20) (m.kh ++ [.slice a' m.ents.length cap']) := by
  have l1 := h.rc.len
  have l2 := h.ch.len
  have l3 := h.ct.len
  simp only [List.length_cons, List.length_nil] at l1 l2 l3
  obtain ⟨h1, q⟩ := Lies.app hl
  obtain ⟨h2, q⟩ := Lies.app q
  obtain ⟨h3, q⟩ := Lies.app q
  obtain ⟨h4, h5⟩ := Lies.app q
  simp only [List.length_append, List.length_cons, List.length_nil, l1, l2, l3, Nat.add_assoc] at h2 h3 h4 h5
  exact ⟨h1 0 _ rfl, h1 1 _ rfl, h2, h3 0 _ rfl, h3 1 _ rfl, h4, h5⟩
theorem one_lies {cs : Array Value} {off : Nat} {v : Value} (h : cs[off]? = some v) : Lies cs off [v] := fun j u hj => by
  cases j with
  | zero => simp at hj; subst hj; exact h
  | succ j => simp at hj
set_option maxHeartbeats 8000000 in
theorem pmsg {bs : List UInt8} {Lp R : List (Nat × Obj)} {i b : Nat} {cs : Array Value} {E : TypeId} {fr : Nat × Nat} {off : Nat} {a : Option Addr} {cap : Nat} {a' : Option Addr} {cap' : Nat} {m : MV} (hM : PMem pb T0 n0 bs Lp) (hT : ∀ q ∈ T0, q ∈ R) (hm : m.Ok) (hn : m.bins.length ≤ 1000000) (hn' : m.ents.length ≤ 1000000) (hroom : bs.length + 1000 + 10 * m.bins.length + 100 * m.ents.length ≤ 1000000000) (hR : R[i]? = some (b, .cells cs E fr))
    (hl : Lies cs off (m.cells a cap a' cap')) (he : Elems R a 1 m.bins) (he' : Elems R a' 10 m.ents) (hfr : Free fr off 24) :
    Fn Tryz.prog 28 [putV pb, .pointer (some ⟨b, off, none⟩)] (Lp ++ R) (fun v L' => v = .tuple #[] ∧ ∃ Lp', L' = Lp' ++ R ∧ PMem pb T0 n0 (bs ++ m.enc) Lp') := by
  obtain ⟨g0, g1, g2, g3, g4, g5, g6⟩ := MV.cells_at hm hl
  have ih := (putM pb T0 n0).ih
  have jn := (putM pb T0 n0).jn
  have im := (putM pb T0 n0).im
  have iw := (putM pb T0 n0).iw
  have it := (putM pb T0 n0).it
  have qw : methX Tryz.prog 107 "anabranch/codec.whole" = some 95 := (putM pb T0 n0).mw
  have qt : methX Tryz.prog 107 "anabranch/codec.truth" = some 94 := (putM pb T0 n0).mt
  have qm : methX Tryz.prog 107 "anabranch/codec.must" = some 91 := (putM pb T0 n0).mm
  have e0 := enc_len (zz_lt hm.kind.1 hm.kind.2)
  have e1 := enc_len (zz_lt hm.ver.1 hm.ver.2)
  have o0 : Fk.ok .ww (.int .i64 m.kind) := ⟨_, rfl, hm.kind.1, hm.kind.2⟩
  have o1 : Fk.ok .ww (.int .i64 m.ver) := ⟨_, rfl, hm.ver.1, hm.ver.2⟩
  have o2 : Fk.ok .ww (.int .i64 m.time) := ⟨_, rfl, hm.time.1, hm.time.2⟩
  have o3 : Fk.ok .ww (.int .i64 m.num) := ⟨_, rfl, hm.num.1, hm.num.2⟩
  have s1 : ∀ x : Int, encs [.ww] [.int .i64 x] = enc (zz x) := fun x => by simp [encs, Fk.enc]
  have e2 := encs_len hm.rc
  refine Fn_enter Tryz.func28 rfl Tryz.ntmps28 rfl fun g => ?_
  repeat (first | refine RQ ?_ | (refine WL_Q ?_; (first | refine QW_of (Qt_nilCheck_m rfl) ?_)) | refine RC ?_ | refine WG 0 ?_)
  refine WL_op rfl ?_
  refine OW_invE (putM pb T0 n0).mh rfl (put_here bs Lp R hM) ?_ (fun _ _ h => h.elim)
  rintro _ _ ⟨rfl, Lp0, rfl, hM0⟩
  repeat (first | refine RQ ?_ | (refine WL_Q ?_; (first | refine QW_of (Qt_nilCheck_m rfl) ?_)) | refine RC ?_ | refine WC_regB 2 ?_)
  refine WL_op rfl ?_
  refine OW_callE rfl (FnE.ofFn (Rp := fun _ _ => False) (putF (fs := [.ww]) (small_flat (putM pb T0 n0)) hM0 hT (show bs.length + 10 * 1 ≤ 1000000000 by omega) hR (ok1 o0) (one_lies g0) (hfr.sub 0 1 (by decide)))) ?_ (fun _ _ h => h.elim)
  rintro _ _ ⟨rfl, Lp1, rfl, hM1⟩
  rw [s1] at hM1
  have hX := get_app (A := Lp1) hR
  repeat (first | refine RQ ?_ | ((first | refine WL_Q ?_ | refine WL_Y ?_); (first | refine QW_of (Qt_nilCheck_m rfl) ?_)) | refine RC ?_ | refine WG 1 ?_)
  refine WC_meet (fun σ => σ = ⟨[(0, putV pb), (1, .pointer (some ⟨b, off, none⟩))], [], Lp1 ++ R⟩) ?_ ?_
  · by_cases hk : 0 ≤ m.kind
    · have d1 : decide (m.kind ≥ 0) = true := decide_eq_true hk
      repeat (first | refine RQr ?_ | ((first | refine WL_Q ?_ | refine WL_Y ?_ | refine WR_Q rfl ?_ | refine WR_late rfl rfl rfl (OW_Q ?_) | refine WR_Y rfl ?_); (first | refine QW_of (Qt_nilCheck_m rfl) ?_)) | refine RC ?_ | refine RU ?_ | refine WC_draw_all (id := 2) 17 (Cs [0,1,2,3,4,5,6,7,8,9,10,11,12,13,14,15] <| .must 16 <| .done) mixed (by kernel_rfl) ?_)
      refine WR_op rfl rfl ?_
      refine OW_invE (putM pb T0 n0).mm rfl (put_must Lp1 R _ 6) ?_ (fun _ _ h => h.elim)
      rintro _ _ ⟨rfl, rfl⟩
      refine ⟨fun _ h => h, ?_⟩
      repeat (first | refine RQr ?_ | ((first | refine WL_Q ?_ | refine WL_Y ?_ | refine WR_Q rfl ?_ | refine WR_late rfl rfl rfl (OW_Q ?_) | refine WR_Y rfl ?_); (first | refine QW_of (Qt_nilCheck_m rfl) ?_)) | refine RC ?_ | refine RU ?_ | refine WC_draw_all (id := 2) 17 (Cs [0,1,2,3,4,5,6,7,8,9,10,11,12,13,14,15] <| .must 16 <| .done) mixed (by kernel_rfl) ?_)
      exact ⟨_, rfl, ⟨rfl, rfl, trivial⟩, rfl, .refl _⟩
    · have d1 : decide (m.kind ≥ 0) = false := decide_eq_false hk
      repeat (first | refine RQr ?_ | ((first | refine WL_Q ?_ | refine WL_Y ?_ | refine WR_Q rfl ?_ | refine WR_late rfl rfl rfl (OW_Q ?_) | refine WR_Y rfl ?_); (first | refine QW_of (Qt_nilCheck_m rfl) ?_)) | refine RC ?_ | refine RU ?_ | refine WC_draw_all (id := 2) 17 (Cs [0,1,2,3,4,5,6,7,8,9,10,11,12,13,14,15] <| .must 16 <| .done) mixed (by kernel_rfl) ?_)
      refine WR_op rfl rfl ?_
      refine OW_invE (putM pb T0 n0).mm rfl (put_must Lp1 R _ 6) ?_ (fun _ _ h => h.elim)
      rintro _ _ ⟨rfl, rfl⟩
      refine ⟨fun _ h => h, ?_⟩
      repeat (first | refine RQr ?_ | ((first | refine WL_Q ?_ | refine WL_Y ?_ | refine WR_Q rfl ?_ | refine WR_late rfl rfl rfl (OW_Q ?_) | refine WR_Y rfl ?_); (first | refine QW_of (Qt_nilCheck_m rfl) ?_)) | refine RC ?_ | refine RU ?_ | refine WC_draw_all (id := 2) 17 (Cs [0,1,2,3,4,5,6,7,8,9,10,11,12,13,14,15] <| .must 16 <| .done) mixed (by kernel_rfl) ?_)
      exact ⟨_, rfl, ⟨rfl, rfl, trivial⟩, rfl, .refl _⟩
  rintro _ rfl
  repeat (first | refine RQ ?_ | ((first | refine WL_Q ?_ | refine WL_Y ?_); (first | refine QW_of (Qt_nilCheck_m rfl) ?_)) | refine RC ?_ | refine WG 3 ?_)
  refine WL_op rfl ?_
  refine OW_callE rfl (FnE.ofFn (Rp := fun _ _ => False) (putF (fs := [.ww]) (small_flat (putM pb T0 n0)) hM1 hT (show (bs ++ enc (zz m.kind)).length + 10 * 1 ≤ 1000000000 by rw [List.length_append]; omega) hR (ok1 o1) (one_lies g1) (hfr.sub 1 1 (by decide)))) ?_ (fun _ _ h => h.elim)
  rintro _ _ ⟨rfl, Lp2, rfl, hM2⟩
  rw [s1] at hM2
  have hl2 : (bs ++ enc (zz m.kind) ++ enc (zz m.ver)).length ≤ bs.length + 20 := by rw [List.length_append, List.length_append]; omega
  have fin : ∀ {x : List UInt8} {Lp' : List (Nat × Obj)}, m.body = x → PMem pb T0 n0 (bs ++ enc (zz m.kind) ++ enc (zz m.ver) ++ x) Lp' → PMem pb T0 n0 (bs ++ m.enc) Lp' := fun {x Lp'} h1 h2 => by
    have e : bs ++ m.enc = bs ++ enc (zz m.kind) ++ enc (zz m.ver) ++ x := by rw [← h1]; unfold MV.enc; simp
    rw [e]; exact h2
  have hX2 := get_app (A := Lp2) hR
  by_cases hk : m.kind = 0
  · have hk0 := hk
    have d0 : (m.kind == 0) = true := by simpa using hk
    repeat (first | refine RQr ?_ | ((first | refine WL_Q ?_ | refine WL_Y ?_ | refine WR_Q rfl ?_ | refine WR_late rfl rfl rfl (OW_Q ?_) | refine WR_Y rfl ?_); (first | refine QW_of (Qt_nilCheck_m rfl) ?_)) | refine RC ?_ | refine RU ?_ | refine WC_draw_all (id := 8) 8 (Cs [0,1,2,3,4,5,6] <| .must 7 <| .done) mixed (by kernel_rfl) ?_ | refine WG 4 ?_ | refine WG 5 ?_ | refine WG 6 ?_ | refine WG 7 ?_ | refine WG 9 ?_ | refine WG 10 ?_ | refine WG 11 ?_ | refine WG 12 ?_ | refine WG 13 ?_ | refine WG 14 ?_)
    refine WL_op rfl ?_
    refine OW_callE rfl (FnE.ofFn (Rp := fun _ _ => False) (putF (fs := recF) (rec_flat (putM pb T0 n0)) hM2 hT (show (bs ++ enc (zz m.kind) ++ enc (zz m.ver)).length + 10 * 6 ≤ 1000000000 by omega) hR (hm.rc) g2 (hfr.sub 2 6 (by decide)))) ?_ (fun _ _ h => h.elim)
    rintro _ _ ⟨rfl, Lp3, rfl, hM3⟩
    repeat (first | refine RQr ?_ | ((first | refine WL_Q ?_ | refine WL_Y ?_ | refine WR_Q rfl ?_ | refine WR_late rfl rfl rfl (OW_Q ?_) | refine WR_Y rfl ?_); (first | refine QW_of (Qt_nilCheck_m rfl) ?_)) | refine RC ?_ | refine RU ?_ | refine WC_draw_all (id := 8) 8 (Cs [0,1,2,3,4,5,6] <| .must 7 <| .done) mixed (by kernel_rfl) ?_ | refine WG 0 ?_ | refine WG 5 ?_ | refine WG 6 ?_ | refine WG 7 ?_ | refine WG 9 ?_ | refine WG 10 ?_ | refine WG 11 ?_ | refine WG 12 ?_ | refine WG 13 ?_ | refine WG 14 ?_)
    exact ⟨rfl, _, _, Res0 rfl, .refl _, rfl, Lp3, rfl, fin (by unfold MV.body; rw [if_pos hk]) hM3⟩
  by_cases hk : m.kind = 1
  · have hk1 := hk
    have d0 : (m.kind == 0) = false := by simpa using (show ¬ m.kind = 0 by omega)
    have d1 : (m.kind == 1) = true := by simpa using hk
    repeat (first | refine RQ ?_ | ((first | refine WL_Q ?_ | refine WL_Y ?_); (first | refine QW_of (Qt_nilCheck_m rfl) ?_)) | refine RC ?_ | refine WG 4 ?_ | refine WG 5 ?_ | refine WG 6 ?_ | refine WG 7 ?_ | refine WG 9 ?_ | refine WG 10 ?_ | refine WG 11 ?_ | refine WG 12 ?_ | refine WG 13 ?_ | refine WG 14 ?_)
    refine WC_draw_sub (id := 8) 8 (Cs [0,1,2,3,4,5,6] <| .must 7 <| .done) mixed (by kernel_rfl) (List.nil_sublist _) ?_
    repeat (first | refine RQr ?_ | ((first | refine WL_Q ?_ | refine WL_Y ?_ | refine WR_Q rfl ?_ | refine WR_late rfl rfl rfl (OW_Q ?_) | refine WR_Y rfl ?_); (first | refine QW_of (Qt_nilCheck_m rfl) ?_)) | refine RC ?_ | refine RU ?_ | refine WC_draw_all (id := 8) 8 (Cs [0,1,2,3,4,5,6] <| .must 7 <| .done) mixed (by kernel_rfl) ?_ | refine WG 4 ?_ | refine WG 5 ?_ | refine WG 6 ?_ | refine WG 7 ?_ | refine WG 9 ?_ | refine WG 10 ?_ | refine WG 11 ?_ | refine WG 12 ?_ | refine WG 13 ?_ | refine WG 14 ?_)
    refine WR_op rfl rfl ?_
    refine OW_invE (putM pb T0 n0).mw rfl (FnE.ofFn (Rp := fun _ _ => False) (putF (fs := [.ww]) put_whole hM2 hT (show (bs ++ enc (zz m.kind) ++ enc (zz m.ver)).length + 10 * 1 ≤ 1000000000 by omega) hR (ok1 o2) (one_lies g3) (hfr.sub 8 1 (by decide)))) ?_ (fun _ _ h => h.elim)
    rintro _ _ ⟨rfl, Lp3, rfl, hM3⟩
    refine ⟨(fun q hq => (by cases hq)), ?_⟩
    repeat (first | refine RQr ?_ | ((first | refine WL_Q ?_ | refine WL_Y ?_ | refine WR_Q rfl ?_ | refine WR_late rfl rfl rfl (OW_Q ?_) | refine WR_Y rfl ?_); (first | refine QW_of (Qt_nilCheck_m rfl) ?_)) | refine RC ?_ | refine RU ?_ | refine WC_draw_all (id := 8) 8 (Cs [0,1,2,3,4,5,6] <| .must 7 <| .done) mixed (by kernel_rfl) ?_ | refine WG 0 ?_ | refine WG 5 ?_ | refine WG 6 ?_ | refine WG 7 ?_ | refine WG 9 ?_ | refine WG 10 ?_ | refine WG 11 ?_ | refine WG 12 ?_ | refine WG 13 ?_ | refine WG 14 ?_)
    exact ⟨rfl, _, _, Res0 rfl, .refl _, rfl, Lp3, rfl, fin (by unfold MV.body; rw [if_neg (by omega), if_pos hk]; exact (s1 _).symm) hM3⟩
  by_cases hk : m.kind = 2
  · have hk2 := hk
    have d0 : (m.kind == 0) = false := by simpa using (show ¬ m.kind = 0 by omega)
    have d1 : (m.kind == 1) = false := by simpa using (show ¬ m.kind = 1 by omega)
    have d2 : (m.kind == 2) = true := by simpa using hk
    repeat (first | refine RQr ?_ | ((first | refine WL_Q ?_ | refine WL_Y ?_ | refine WR_Q rfl ?_ | refine WR_late rfl rfl rfl (OW_Q ?_) | refine WR_Y rfl ?_); (first | refine QW_of (Qt_nilCheck_m rfl) ?_)) | refine RC ?_ | refine RU ?_ | refine WC_draw_all (id := 8) 8 (Cs [0,1,2,3,4,5,6] <| .must 7 <| .done) mixed (by kernel_rfl) ?_ | refine WG 4 ?_ | refine WG 5 ?_ | refine WG 6 ?_ | refine WG 7 ?_ | refine WG 9 ?_ | refine WG 10 ?_ | refine WG 11 ?_ | refine WG 12 ?_ | refine WG 13 ?_ | refine WG 14 ?_)
    refine WL_op rfl ?_
    refine OW_callE rfl (FnE.ofFn (Rp := fun _ _ => False) (putF (fs := [.ww]) (small_flat (putM pb T0 n0)) hM2 hT (show (bs ++ enc (zz m.kind) ++ enc (zz m.ver)).length + 10 * 1 ≤ 1000000000 by omega) hR ((ok1 o3)) (one_lies g4) (hfr.sub 9 1 (by decide)))) ?_ (fun _ _ h => h.elim)
    rintro _ _ ⟨rfl, Lp3, rfl, hM3⟩
    repeat (first | refine RQr ?_ | ((first | refine WL_Q ?_ | refine WL_Y ?_ | refine WR_Q rfl ?_ | refine WR_late rfl rfl rfl (OW_Q ?_) | refine WR_Y rfl ?_); (first | refine QW_of (Qt_nilCheck_m rfl) ?_)) | refine RC ?_ | refine RU ?_ | refine WC_draw_all (id := 8) 8 (Cs [0,1,2,3,4,5,6] <| .must 7 <| .done) mixed (by kernel_rfl) ?_ | refine WG 0 ?_ | refine WG 5 ?_ | refine WG 6 ?_ | refine WG 7 ?_ | refine WG 9 ?_ | refine WG 10 ?_ | refine WG 11 ?_ | refine WG 12 ?_ | refine WG 13 ?_ | refine WG 14 ?_)
    exact ⟨rfl, _, _, Res0 rfl, .refl _, rfl, Lp3, rfl, fin (by unfold MV.body; rw [if_neg (by omega), if_neg (by omega), if_pos hk]; exact (s1 _).symm) hM3⟩
  by_cases hk : m.kind = 3
  · have hk3 := hk
    have d0 : (m.kind == 0) = false := by simpa using (show ¬ m.kind = 0 by omega)
    have d1 : (m.kind == 1) = false := by simpa using (show ¬ m.kind = 1 by omega)
    have d2 : (m.kind == 2) = false := by simpa using (show ¬ m.kind = 2 by omega)
    have d3 : (m.kind == 3) = true := by simpa using hk
    repeat (first | refine RQr ?_ | ((first | refine WL_Q ?_ | refine WL_Y ?_ | refine WR_Q rfl ?_ | refine WR_late rfl rfl rfl (OW_Q ?_) | refine WR_Y rfl ?_); (first | refine QW_of (Qt_nilCheck_m rfl) ?_)) | refine RC ?_ | refine RU ?_ | refine WC_draw_all (id := 8) 8 (Cs [0,1,2,3,4,5,6] <| .must 7 <| .done) mixed (by kernel_rfl) ?_ | refine WG 4 ?_ | refine WG 5 ?_ | refine WG 6 ?_ | refine WG 7 ?_ | refine WG 9 ?_ | refine WG 10 ?_ | refine WG 11 ?_ | refine WG 12 ?_ | refine WG 13 ?_ | refine WG 14 ?_)
    refine WL_op rfl ?_
    refine OW_callE rfl (FnE.ofFn (Rp := fun _ _ => False) (pcmd hM2 hT hn (by omega) hR hm.ch hm.ct hm.bins g5 he (hfr.sub 10 10 (by decide)))) ?_ (fun _ _ h => h.elim)
    rintro _ _ ⟨rfl, Lp3, rfl, hM3⟩
    repeat (first | refine RQr ?_ | ((first | refine WL_Q ?_ | refine WL_Y ?_ | refine WR_Q rfl ?_ | refine WR_late rfl rfl rfl (OW_Q ?_) | refine WR_Y rfl ?_); (first | refine QW_of (Qt_nilCheck_m rfl) ?_)) | refine RC ?_ | refine RU ?_ | refine WC_draw_all (id := 8) 8 (Cs [0,1,2,3,4,5,6] <| .must 7 <| .done) mixed (by kernel_rfl) ?_ | refine WG 0 ?_ | refine WG 5 ?_ | refine WG 6 ?_ | refine WG 7 ?_ | refine WG 9 ?_ | refine WG 10 ?_ | refine WG 11 ?_ | refine WG 12 ?_ | refine WG 13 ?_ | refine WG 14 ?_)
    exact ⟨rfl, _, _, Res0 rfl, .refl _, rfl, Lp3, rfl, fin (by unfold MV.body; rw [if_neg (by omega), if_neg (by omega), if_neg (by omega), if_pos hk]) hM3⟩
  by_cases hk : m.kind = 4
  · have hk4 := hk
    have d0 : (m.kind == 0) = false := by simpa using (show ¬ m.kind = 0 by omega)
    have d1 : (m.kind == 1) = false := by simpa using (show ¬ m.kind = 1 by omega)
    have d2 : (m.kind == 2) = false := by simpa using (show ¬ m.kind = 2 by omega)
    have d3 : (m.kind == 3) = false := by simpa using (show ¬ m.kind = 3 by omega)
    have d4 : (m.kind == 4) = true := by simpa using hk
    repeat (first | refine RQr ?_ | ((first | refine WL_Q ?_ | refine WL_Y ?_ | refine WR_Q rfl ?_ | refine WR_late rfl rfl rfl (OW_Q ?_) | refine WR_Y rfl ?_); (first | refine QW_of (Qt_nilCheck_m rfl) ?_)) | refine RC ?_ | refine RU ?_ | refine WC_draw_all (id := 8) 8 (Cs [0,1,2,3,4,5,6] <| .must 7 <| .done) mixed (by kernel_rfl) ?_ | refine WG 4 ?_ | refine WG 5 ?_ | refine WG 6 ?_ | refine WG 7 ?_ | refine WG 9 ?_ | refine WG 10 ?_ | refine WG 11 ?_ | refine WG 12 ?_ | refine WG 13 ?_ | refine WG 14 ?_)
    refine WL_op rfl ?_
    refine OW_callE rfl (FnE.ofFn (Rp := fun _ _ => False) (pchunk hM2 hT hn' (by omega) hR hm.kh hm.ents g6 he' (hfr.sub 20 4 (by decide)))) ?_ (fun _ _ h => h.elim)
    rintro _ _ ⟨rfl, Lp3, rfl, hM3⟩
    repeat (first | refine RQr ?_ | ((first | refine WL_Q ?_ | refine WL_Y ?_ | refine WR_Q rfl ?_ | refine WR_late rfl rfl rfl (OW_Q ?_) | refine WR_Y rfl ?_); (first | refine QW_of (Qt_nilCheck_m rfl) ?_)) | refine RC ?_ | refine RU ?_ | refine WC_draw_all (id := 8) 8 (Cs [0,1,2,3,4,5,6] <| .must 7 <| .done) mixed (by kernel_rfl) ?_ | refine WG 0 ?_ | refine WG 5 ?_ | refine WG 6 ?_ | refine WG 7 ?_ | refine WG 9 ?_ | refine WG 10 ?_ | refine WG 11 ?_ | refine WG 12 ?_ | refine WG 13 ?_ | refine WG 14 ?_)
    exact ⟨rfl, _, _, Res0 rfl, .refl _, rfl, Lp3, rfl, fin (by unfold MV.body; rw [if_neg (by omega), if_neg (by omega), if_neg (by omega), if_neg (by omega), if_pos hk]) hM3⟩
  have d0 : (m.kind == 0) = false := by simpa using (show ¬ m.kind = 0 by omega)
  have d1 : (m.kind == 1) = false := by simpa using (show ¬ m.kind = 1 by omega)
  have d2 : (m.kind == 2) = false := by simpa using (show ¬ m.kind = 2 by omega)
  have d3 : (m.kind == 3) = false := by simpa using (show ¬ m.kind = 3 by omega)
  have d4 : (m.kind == 4) = false := by simpa using (show ¬ m.kind = 4 by omega)
  repeat (first | refine RQr ?_ | ((first | refine WL_Q ?_ | refine WL_Y ?_ | refine WR_Q rfl ?_ | refine WR_late rfl rfl rfl (OW_Q ?_) | refine WR_Y rfl ?_); (first | refine QW_of (Qt_nilCheck_m rfl) ?_)) | refine RC ?_ | refine RU ?_ | refine WC_draw_all (id := 8) 8 (Cs [0,1,2,3,4,5,6] <| .must 7 <| .done) mixed (by kernel_rfl) ?_ | refine WG 4 ?_ | refine WG 5 ?_ | refine WG 6 ?_ | refine WG 7 ?_ | refine WG 9 ?_ | refine WG 10 ?_ | refine WG 11 ?_ | refine WG 12 ?_ | refine WG 13 ?_ | refine WG 14 ?_)
  exact ⟨rfl, _, _, Res0 rfl, .refl _, rfl, Lp2, rfl, fin (x := []) (by unfold MV.body; rw [if_neg (by omega), if_neg (by omega), if_neg (by omega), if_neg (by omega), if_neg (by omega)]) (by rw [List.append_nil]; exact hM2)⟩
end
end Go.Proofs.YtgimodceldoniaaGreatDoor
namespace Go.Proofs.YtgimodceldoniaaGreatDoor
open Go.RowKit
attribute [local irreducible] Fn WC WL WR OW Qt YieldFn QW FnP FnD FnE
theorem by_T0 {L : List (Nat × Obj)} {v : Value} {bs : List UInt8} (h : ByAt L v bs) : ∃ a cap T0, v = .slice a bs.length cap ∧ bs.length ≤ cap ∧ cap ≤ maxLen ∧ (∀ q ∈ T0, q ∈ L) ∧ ByAt T0 (.slice a bs.length bs.length) bs := by
  obtain ⟨h1, a, cap, rfl, h3, h4, h5⟩ := h
  rcases h5 with h5 | ⟨b, off, cs, E, fr, i, e1, e2, e3⟩
  · refine ⟨a, cap, [], rfl, h3, h4, (fun q hq => (by cases hq)), h1, a, bs.length, rfl, Nat.le_refl _, by omega, .inl h5⟩
  · exact ⟨a, cap, [(b, .cells cs E fr)], rfl, h3, h4, fun q hq => by rw [List.mem_singleton.1 hq]; exact List.mem_of_getElem? e2, h1, a, bs.length, rfl, Nat.le_refl _, by omega, .inr ⟨b, off, cs, E, fr, 0, e1, rfl, e3⟩⟩
theorem Elems.mem {R R' : List (Nat × Obj)} {a : Option Addr} {n : Nat} {vss : List (List Value)} (h : Elems R a n vss) (hs : ∀ q ∈ R, q ∈ R') : Elems R' a n vss := by
  rcases h with h | ⟨be, eo, ie, ec, EE, ef, h1, h2, h3⟩
  · exact .inl h
  · obtain ⟨j, hj⟩ := List.mem_iff_getElem?.1 (hs _ (List.mem_of_getElem? h2))
    exact .inr ⟨be, eo, j, ec, EE, ef, h1, hj, h3⟩
theorem MV.enc_pos (m : MV) : 0 < m.enc.length := by
  have := Go.Proofs.YtgimodceldoniaaGreatDoor.enc_pos (zz m.kind)
  unfold MV.enc; rw [List.length_append]; omega
set_option maxHeartbeats 2000000 in
theorem laid_Msg {v : Value} {bs l : List UInt8} {cs : Array Value} {L : List (Nat × Obj)} {fu : FuncId} [FCall Tryz.prog fu] (hb : ByAt L v bs) (hlen : 0 < l.length)
    (hf : ∀ (pb : Nat) (T0 : List (Nat × Obj)) (xb : Nat) (Lp : List (Nat × Obj)), PMem pb T0 bs.length bs Lp → (∀ q ∈ T0, q ∈ ((xb, Obj.cells cs 36 (0, 0)) :: L)) → Fn Tryz.prog fu [putV pb, .pointer (some ⟨xb, 0, none⟩)] (Lp ++ ((xb, Obj.cells cs 36 (0, 0)) :: L)) (fun v L' => v = .tuple #[] ∧ ∃ Lp', L' = Lp' ++ ((xb, Obj.cells cs 36 (0, 0)) :: L) ∧ PMem pb T0 bs.length (bs ++ l) Lp')) :
    Fn Tryz.prog 27 [v, .agg cs, .func (.func fu) #[] #[]] L (fun r L' => LaidAt r L L' (bs ++ l)) := by
  obtain ⟨a, cap, T0, rfl, hc1, hc2, hT, hb0⟩ := by_T0 hb
  refine Fn_enter Tryz.func27 rfl Tryz.ntmps27 rfl fun g => ?_
  repeat (first | refine RQ ?_ | (refine RE ?_; try intro _) | refine RC ?_ | refine WC_region ?_)
  rename_i xb pb
  refine WL_op rfl ?_
  refine OW_callE rfl (FnE.ofFn (Rp := fun _ _ => False) (hf pb T0 xb [(pb, Obj.cells #[.slice a bs.length bs.length] 109 (0, 0))] ⟨_, [], rfl, hb0, .inl ⟨rfl, rfl, a, rfl⟩⟩ (fun q hq => List.mem_cons_of_mem _ (hT q hq)))) ?_ (fun _ _ h => h.elim)
  rintro _ _ ⟨rfl, _, rfl, v', T, rfl, _, hc⟩
  rcases hc with ⟨_, hc, _⟩ | ⟨g', off, cap', cur, rfl, rfl, hown⟩
  · rw [List.length_append] at hc; omega
  repeat (first | refine RQ ?_ | (refine RE ?_; try intro _) | refine RC ?_ | refine WC_region ?_)
  exact ⟨rfl, _, (g', .cells cur 5 (0, 0)) :: L, Res1 rfl (resV_tmp rfl), .cons_cons _ (.cons _ (.cons _ (.refl _))), g', off, cap', cur, rfl, rfl, hown⟩
set_option maxHeartbeats 1000000 in
theorem PMsg_fn {v : Value} {bs : List UInt8} {cs : Array Value} {L : List (Nat × Obj)} {a : Option Addr} {cap : Nat} {a' : Option Addr} {cap' : Nat} {m : MV} (hb : ByAt L v bs) (hz : cs.size = 24) (hm : m.Ok) (hn : m.bins.length ≤ 1000000) (hn' : m.ents.length ≤ 100000) (hl : Lies cs 0 (m.cells a cap a' cap')) (he : Elems L a 1 m.bins) (he' : Elems L a' 10 m.ents) (hroom : bs.length ≤ 900000000) :
    Fn Tryz.prog 14 [v, .agg cs] L (fun r L' => LaidAt r L L' (bs ++ m.enc)) := by
  refine Fn_enter Tryz.func14 rfl Tryz.ntmps14 rfl fun g => ?_
  repeat (first | refine RQ ?_ | (refine RE ?_; try intro _) | refine RC ?_ | refine WC_region ?_)
  rename_i xb
  refine WL_op rfl ?_
  refine OW_callE rfl (FnE.ofFn (Rp := fun _ _ => False) (laid_Msg (l := m.enc) (hb.cons _) (m.enc_pos) fun pb T0 xb2 Lp hM hT => pmsg (i := 0) hM hT hm hn (by omega) (by omega) rfl hl (he.mem fun q hq => List.mem_cons_of_mem _ (List.mem_cons_of_mem _ hq)) (he'.mem fun q hq => List.mem_cons_of_mem _ (List.mem_cons_of_mem _ hq)) (Free.zero _ _))) ?_ (fun _ _ h => h.elim)
  rintro _ _ ⟨g', off, cap', cur, rfl, rfl, hown⟩
  repeat (first | refine RQ ?_ | (refine RE ?_; try intro _) | refine RC ?_ | refine WC_region ?_)
  exact ⟨rfl, _, (g', .cells cur 5 (0, 0)) :: L, Res1 rfl (resV_tmp rfl), .cons_cons _ (.cons _ (.refl _)), g', off, cap', cur, rfl, rfl, hown⟩
end Go.Proofs.YtgimodceldoniaaGreatDoor
namespace Go.Proofs.YtgimodceldoniaaGreatDoor
open Go.RowKit
attribute [local irreducible] Fn WC WL WR OW Qt YieldFn QW FnP FnD FnE
theorem lies_extract {cs : Array Value} {a n : Nat} {vs : List Value} (h : Lies cs a vs) (hn : vs.length ≤ n) : Lies (cs.extract a (a + n)) 0 vs := fun j v hj => by
  have hlt := (List.getElem?_eq_some_iff.1 hj).1
  have := h j v hj
  have hc := (Array.getElem?_eq_some_iff.1 this).1
  rw [Nat.zero_add, Array.getElem?_extract, if_pos (by omega)]
  exact this
theorem size_extract {cs : Array Value} {a n : Nat} (h : a + n ≤ cs.size) : (cs.extract a (a + n)).size = n := by simp; omega
theorem lies0 {cs : Array Value} {vs : List Value} (h : Lies cs 0 vs) {j : Nat} {v : Value} (hj : vs[j]? = some v) : cs[j]? = some v := by
  have := h j v hj
  rwa [Nat.zero_add] at this
theorem rW_fn {x : Int} {L : List (Nat × Obj)} (h0 : -9223372036854775808 ≤ x) (h1 : x < 9223372036854775808) : Fn Tryz.prog 58 [.int .i64 x] L (fun r L' => r = .string (bstr (enc (zz x))) ∧ L' = L) := by
  refine Fn_enter Tryz.func58 rfl Tryz.ntmps58 rfl fun g => ?_
  repeat (first | refine RQ ?_ | (refine WL_op rfl ?_; (first | refine OW_callP rfl (hF := Int_fn (by with_reducible assumption) (by with_reducible assumption)) (hk := ?_))) | refine RC ?_ | refine WC_region ?_)
  exact ⟨rfl, _, _, Res1 rfl (resV_tmp rfl), .refl _, rfl, rfl⟩
set_option maxHeartbeats 4000000 in
theorem rOp_fn {cs : Array Value} {vs : List Value} {L : List (Nat × Obj)} (hv : Oks opF vs) (hl : Lies cs 0 vs) : Fn Tryz.prog 61 [.agg cs] L (fun r L' => r = .string (bstr (encs opF vs)) ∧ L' = L) := by
  obtain ⟨x0, us, rfl, xh0, hv⟩ := hv.split
  obtain ⟨x1, us, rfl, xh1, hv⟩ := hv.split
  obtain ⟨x2, us, rfl, xh2, hv⟩ := hv.split
  obtain ⟨x3, us, rfl, xh3, hv⟩ := hv.split
  obtain rfl := hv.nil
  have ex0 := enc_len_ok xh0
  obtain ⟨x0, rfl, x0lo, x0hi⟩ := xh0
  have fx0 : (enc (zz x0)).length ≤ 10 := ex0
  have ex1 := enc_len_ok xh1
  obtain ⟨x1, rfl, x1lo, x1hi⟩ := xh1
  have fx1 : (enc (zz x1)).length ≤ 10 := ex1
  have ex2 := enc_len_ok xh2
  obtain ⟨x2, rfl, x2lo, x2hi⟩ := xh2
  have fx2 : (enc (zz x2)).length ≤ 10 := ex2
  have ex3 := enc_len_ok xh3
  obtain ⟨x3, rfl, x3lo, x3hi⟩ := xh3
  have fx3 : (enc (zz x3)).length ≤ 10 := ex3
  have c0 := lies0 hl (j := 0) rfl
  have c1 := lies0 hl (j := 1) rfl
  have c2 := lies0 hl (j := 2) rfl
  have c3 := lies0 hl (j := 3) rfl
  refine Fn_enter Tryz.func61 rfl Tryz.ntmps61 rfl fun g => ?_
  repeat (first | refine RQr ?_ | (refine OX ?_; (first | (refine OE ?_; try intro _) | refine OW_callP rfl (hF := Int_fn (by with_reducible assumption) (by with_reducible assumption)) (hk := ?_) | refine OW_callP rfl (hF := rW_fn (by with_reducible assumption) (by with_reducible assumption)) (hk := ?_)); try refine SD ?_) | refine RC ?_ | refine RU ?_ | refine WC_draw_all (id := 1) 16 (Cs [0,1,3,4,7,8,11,12] <| .must 2 <| .must 5 <| .calm 6 <| .must 9 <| .calm 10 <| .must 13 <| Cs [14,15] <| .done) mixed (by kernel_rfl) ?_ | refine WC_region ?_)
  refine ⟨rfl, _, _, Res1 rfl (resV_tmp rfl), .cons _ (.refl _), ?_, rfl⟩
  simp [encs, Fk.enc]
set_option maxHeartbeats 4000000 in
theorem rAcc_fn {cs : Array Value} {vs : List Value} {L : List (Nat × Obj)} (hv : Oks accF vs) (hl : Lies cs 0 vs) : Fn Tryz.prog 65 [.agg cs] L (fun r L' => r = .string (bstr (encs accF vs)) ∧ L' = L) := by
  obtain ⟨x0, us, rfl, xh0, hv⟩ := hv.split
  obtain ⟨x1, us, rfl, xh1, hv⟩ := hv.split
  obtain ⟨x2, us, rfl, xh2, hv⟩ := hv.split
  obtain ⟨x3, us, rfl, xh3, hv⟩ := hv.split
  obtain ⟨x4, us, rfl, xh4, hv⟩ := hv.split
  obtain rfl := hv.nil
  have ex0 := enc_len_ok xh0
  obtain ⟨x0, rfl, x0lo, x0hi⟩ := xh0
  have fx0 : (enc (zz x0)).length ≤ 10 := ex0
  have ex1 := enc_len_ok xh1
  obtain ⟨x1, rfl, x1lo, x1hi⟩ := xh1
  have fx1 : (enc (zz x1)).length ≤ 10 := ex1
  have ex2 := enc_len_ok xh2
  obtain ⟨x2, rfl, x2lo, x2hi⟩ := xh2
  have fx2 : (enc x2.toNat).length ≤ 10 := ex2
  have ex3 := enc_len_ok xh3
  obtain ⟨x3, rfl, x3lo, x3hi⟩ := xh3
  have fx3 : (enc (zz x3)).length ≤ 10 := ex3
  have ex4 := enc_len_ok xh4
  obtain ⟨x4, rfl, x4lo, x4hi⟩ := xh4
  have fx4 : (enc (zz x4)).length ≤ 10 := ex4
  have c0 := lies0 hl (j := 0) rfl
  have c1 := lies0 hl (j := 1) rfl
  have c2 := lies0 hl (j := 2) rfl
  have c3 := lies0 hl (j := 3) rfl
  have c4 := lies0 hl (j := 4) rfl
  refine Fn_enter Tryz.func65 rfl Tryz.ntmps65 rfl fun g => ?_
  repeat (first | refine RQr ?_ | (refine OX ?_; (first | (refine OE ?_; try intro _) | refine OW_callP rfl (hF := Int_fn (by with_reducible assumption) (by with_reducible assumption)) (hk := ?_) | refine OW_callP rfl (hF := Num_fn' (by with_reducible assumption) (by with_reducible assumption)) (hk := ?_)); try refine SD ?_) | refine RC ?_ | refine RU ?_ | refine WC_draw_all (id := 1) 20 (Cs [0,1,3,4,7,8,11,12,15,16] <| .must 2 <| .must 5 <| .calm 6 <| .must 9 <| .calm 10 <| .must 13 <| .calm 14 <| .must 17 <| Cs [18,19] <| .done) mixed (by kernel_rfl) ?_ | refine WC_region ?_)
  refine ⟨rfl, _, _, Res1 rfl (resV_tmp rfl), .cons _ (.refl _), ?_, rfl⟩
  simp [encs, Fk.enc]
set_option maxHeartbeats 4000000 in
theorem rEntry_fn {cs : Array Value} {vs : List Value} {L : List (Nat × Obj)} (hz : cs.size = 10) (hv : Oks entryF vs) (hl : Lies cs 0 vs) : Fn Tryz.prog 63 [.agg cs] L (fun r L' => r = .string (bstr (encs entryF vs)) ∧ L' = L) := by
  obtain ⟨x0, us, rfl, xh0, hv⟩ := hv.split
  obtain ⟨x1, us, rfl, xh1, hv⟩ := hv.split
  obtain ⟨x2, us, rfl, xh2, hv⟩ := hv.split
  obtain ⟨x3, us, rfl, xh3, hv⟩ := hv.split
  obtain ⟨x4, us, rfl, xh4, hv⟩ := hv.split
  obtain ⟨x5, us, rfl, xh5, hv⟩ := hv.split
  obtain ⟨x6, us, rfl, xh6, hv⟩ := hv.split
  obtain ⟨x7, us, rfl, xh7, hv⟩ := hv.split
  obtain ⟨x8, us, rfl, xh8, hv⟩ := hv.split
  obtain ⟨x9, us, rfl, xh9, hv⟩ := hv.split
  obtain rfl := hv.nil
  have hs5 : Oks accF [x5, x6, x7, x8, x9] := ⟨xh5, xh6, xh7, xh8, xh9, trivial⟩
  have hl5 : Lies (cs.extract 5 (5 + 5)) 0 [x5, x6, x7, x8, x9] := lies_extract (by have h := hl.cut 5 5; rwa [Nat.zero_add] at h) (Nat.le_refl _)
  have hsl5 := encs_len hs5
  simp only [List.length_cons, List.length_nil] at hsl5
  have ex0 := enc_len_ok xh0
  obtain ⟨x0, rfl, x0lo, x0hi⟩ := xh0
  have fx0 : (enc (zz x0)).length ≤ 10 := ex0
  have ex1 := enc_len_ok xh1
  obtain ⟨x1, rfl, x1lo, x1hi⟩ := xh1
  have x1w : IntKind.u64.wrap x1 = x1 := wU64 x1lo (by omega)
  have x1wl := u64_lo x1
  have x1wh := u64_hi x1
  have fx1 : (enc (IntKind.u64.wrap x1).toNat).length ≤ 10 := by rw [x1w]; exact ex1
  have ex2 := enc_len_ok xh2
  obtain ⟨x2, rfl, x2lo, x2hi⟩ := xh2
  have fx2 : (enc (zz x2)).length ≤ 10 := ex2
  have ex3 := enc_len_ok xh3
  obtain ⟨x3, rfl, x3lo, x3hi⟩ := xh3
  have fx3 : (enc (zz x3)).length ≤ 10 := ex3
  have ex4 := enc_len_ok xh4
  obtain ⟨x4, rfl⟩ := xh4
  have ex5 := enc_len_ok xh5
  have ex6 := enc_len_ok xh6
  have ex7 := enc_len_ok xh7
  have ex8 := enc_len_ok xh8
  have ex9 := enc_len_ok xh9
  have c0 := lies0 hl (j := 0) rfl
  have c1 := lies0 hl (j := 1) rfl
  have c2 := lies0 hl (j := 2) rfl
  have c3 := lies0 hl (j := 3) rfl
  have c4 := lies0 hl (j := 4) rfl
  refine Fn_enter Tryz.func63 rfl Tryz.ntmps63 rfl fun g => ?_
  repeat' (first | refine RQr ?_ | (refine OX ?_; (first | (refine OE ?_; try intro _) | refine OW_callP rfl (hF := Int_fn (by with_reducible assumption) (by with_reducible assumption)) (hk := ?_) | refine OW_callP rfl (hF := Num_fn' (by with_reducible assumption) (by with_reducible assumption)) (hk := ?_) | refine OW_callP rfl (hF := rW_fn (by with_reducible assumption) (by with_reducible assumption)) (hk := ?_) | refine OW_callP rfl (hF := rAcc_fn hs5 hl5) (hk := ?_)); try refine SD ?_) | refine RC ?_ | refine RU ?_ | refine WC_draw_all (id := 1) 26 (Cs [0,1,3,4,5,8,9,12,13,16,17,21,22] <| .either 2 (.either 6 (.calm 7 <| .either 10 (.calm 11 <| .either 14 (.calm 15 <| .either 18 (Cs [19,20] <| .must 23 <| Cs [24,25] <| .done) 23 (.must 18 <| Cs [19,20,24,25] <| .done)) 18 (.calm 19 <| .must 14 <| Cs [15,20] <| .must 23 <| Cs [24,25] <| .done)) 18 (.calm 19 <| .must 10 <| .calm 11 <| .must 14 <| Cs [15,20] <| .must 23 <| Cs [24,25] <| .done)) 18 (.calm 19 <| .must 6 <| .calm 7 <| .must 10 <| .calm 11 <| .must 14 <| Cs [15,20] <| .must 23 <| Cs [24,25] <| .done)) 18 (.calm 19 <| .must 2 <| .must 6 <| .calm 7 <| .must 10 <| .calm 11 <| .must 14 <| Cs [15,20] <| .must 23 <| Cs [24,25] <| .done)) mixed (by kernel_rfl) ?_ | refine WC_region ?_ | refine WR_either ?_ ?_)
  all_goals
    refine ⟨rfl, _, _, Res1 rfl (resV_tmp rfl), .cons _ (.cons _ (.refl _)), ?_, rfl⟩
    simp [encs, Fk.enc, bV, x1w]
end Go.Proofs.YtgimodceldoniaaGreatDoor
namespace Go.Proofs.YtgimodceldoniaaGreatDoor
open Go.RowKit
attribute [local irreducible] Fn WC WL WR OW Qt YieldFn QW FnP FnD FnE
set_option maxHeartbeats 4000000 in
theorem rCmd_fn {cs : Array Value} {L : List (Nat × Obj)} {a : Option Addr} {cap : Nat} {ch ct : List Value} {bins : List (List Value)} (hz : cs.size = 10) (hn : bins.length ≤ 1000000) (hch : Oks chF ch) (hct : Oks ctF ct) (hb : ∀ vs ∈ bins, Oks binF vs) (hl : Lies cs 0 (ch ++ (.slice a bins.length cap :: ct))) (he : Elems L a 1 bins) :
    Fn Tryz.prog 51 [.agg cs] L (fun r L' => r = .string (bstr (encCmd ch bins ct)) ∧ L' = L) := by
  obtain ⟨v0, us0, rfl, h0, q0⟩ := hch.split
  obtain ⟨v1, us1, rfl, h1, q1⟩ := q0.split
  obtain rfl := q1.nil
  obtain ⟨c0, rfl, a0, b0⟩ := h0
  obtain ⟨c1, rfl, a1, b1⟩ := h1
  obtain ⟨w0, ws0, rfl, k0, r0⟩ := hct.split
  obtain ⟨w1, ws1, rfl, k1, r1⟩ := r0.split
  obtain ⟨t2, ws2, rfl, k2, r2⟩ := r1.split
  obtain ⟨t3, ws3, rfl, k3, r3⟩ := r2.split
  obtain ⟨t4, ws4, rfl, k4, r4⟩ := r3.split
  obtain ⟨t5, ws5, rfl, k5, r5⟩ := r4.split
  obtain ⟨w6, ws6, rfl, k6, r6⟩ := r5.split
  obtain rfl := r6.nil
  obtain ⟨t0, rfl, a2, b2⟩ := k0
  obtain ⟨t1, rfl, a3, b3⟩ := k1
  obtain ⟨t6, rfl, a6, b6⟩ := k6
  have hop : Oks opF [t2, t3, t4, t5] := ⟨k2, k3, k4, k5, trivial⟩
  have hlop : Lies (cs.extract 5 (5 + 4)) 0 [t2, t3, t4, t5] := lies_extract (by have h := hl.cut 5 4; rwa [Nat.zero_add] at h) (Nat.le_refl _)
  have eop := encs_len hop
  simp only [List.length_cons, List.length_nil] at eop
  have f0 := enc_len (zz_lt a0 b0)
  have f1 := enc_len (zz_lt a1 b1)
  have f2 := enc_len (zz_lt a2 b2)
  have f3 := enc_len (zz_lt a3 b3)
  have f6 := enc_len (zz_lt a6 b6)
  have u0 := u64_lo ((bins.length : Nat) : Int)
  have u1 := u64_hi ((bins.length : Nat) : Int)
  have uw : (IntKind.u64.wrap ((bins.length : Nat) : Int)).toNat = bins.length := by rw [wU64 (by omega) (by omega)]; omega
  have fn : (enc (IntKind.u64.wrap ((bins.length : Nat) : Int)).toNat).length ≤ 10 := by rw [uw]; exact enc_len (by omega)
  have g0 := lies0 hl (j := 0) rfl
  have g1 := lies0 hl (j := 1) rfl
  have g2 := lies0 hl (j := 2) rfl
  have g3 := lies0 hl (j := 3) rfl
  have g4 := lies0 hl (j := 4) rfl
  have g9 := lies0 hl (j := 9) rfl
  refine Fn_enter Tryz.func51 rfl Tryz.ntmps51 rfl fun g => ?_
  repeat (first | refine RQr ?_ | (refine OX ?_; (first | (refine OE ?_; try intro _) | refine OW_callP rfl (hF := Int_fn (by with_reducible assumption) (by with_reducible assumption)) (hk := ?_) | refine OW_callP rfl (hF := Num_fn' (by with_reducible assumption) (by with_reducible assumption)) (hk := ?_) | refine OW_callP rfl (hF := rW_fn (by with_reducible assumption) (by with_reducible assumption)) (hk := ?_)); try refine SD ?_) | refine RC0 ?_ | refine RU ?_ | refine WC_block (id := 1) ?_ | refine WC_draw_all (id := 1) 14 (Cs [0,1,3,4,7,8,9,10] <| .must 2 <| .must 5 <| .calm 6 <| .must 11 <| Cs [12,13] <| .done) mixed (by kernel_rfl) ?_ | refine WC_draw_all (id := 6) 18 (Cs [0,1,2,5,6,9,10,13,14] <| .must 3 <| .calm 4 <| .must 7 <| .calm 8 <| .must 11 <| .calm 12 <| .must 15 <| Cs [16,17] <| .done) mixed (by kernel_rfl) ?_ | refine WC_region ?_)
  rename_i xb
  rw [uw]
  obtain ⟨pre, hpre⟩ : ∃ pre, pre = enc (zz c0) ++ enc (zz c1) ++ enc bins.length := ⟨_, rfl⟩
  rw [← hpre]
  have hprel : pre.length ≤ 30 := by
    rw [uw] at fn
    rw [hpre, List.length_append, List.length_append]; omega
  refine WC_meet (fun σ => σ = ⟨[(3, .string (bstr (pre ++ bins.flatMap (encs binF)))), (1, .pointer (some ⟨xb, 0, none⟩))], [], (xb, .cells cs 31 (0, 0)) :: L⟩) ?_ ?_
  · refine WC_block (WC_wk [(4, .int .i64 0), (3, .string (bstr pre)), (1, .pointer (some ⟨xb, 0, none⟩))] ⟨rfl, rfl, rfl, trivial⟩ ?_)
    refine WC_loop (fun m σ => ∃ (j : Nat) (acc : List UInt8), m = bins.length - j ∧ j ≤ bins.length ∧ acc = pre ++ (bins.take j).flatMap (encs binF) ∧ σ = ⟨[(4, .int .i64 (j : Nat)), (3, .string (bstr acc)), (1, .pointer (some ⟨xb, 0, none⟩))], [], (xb, .cells cs 31 (0, 0)) :: L⟩) bins.length ⟨0, pre, by omega, by omega, by simp, rfl⟩ ?_
    rintro m σ ⟨j, acc, rfl, hj, hacc, rfl⟩
    by_cases hlt : j < bins.length
    · have d1 : decide (((j : Nat) : Int) < ((bins.length : Nat) : Int)) = true := decide_eq_true (by omega)
      obtain ⟨vs, hvs⟩ : ∃ vs, bins[j]? = some vs := ⟨_, List.getElem?_eq_getElem hlt⟩
      rcases he with he | ⟨be, eo, ie, ec, EE, ef, rfl, hRe, hat⟩
      · rw [he] at hlt; simp at hlt
      obtain ⟨hle, _⟩ := hat j vs hvs
      obtain ⟨v, us, rfl, hx, q⟩ := (hb vs (List.mem_of_getElem? hvs)).split
      obtain rfl := q.nil
      obtain ⟨x, rfl, x0, x1⟩ := hx
      have i1 : ((j : Nat) : Int) < ((bins.length : Nat) : Int) := by omega
      have i0 : 0 ≤ ((j : Nat) : Int) := by omega
      have hXe : ((xb, Obj.cells cs 31 (0, 0)) :: L)[ie + 1]? = some (be, .cells ec EE ef) := hRe
      have hce : ec[eo + ((j : Nat) : Int).toNat * 1]? = some (.int .i64 x) := hle 0 _ rfl
      have hal : acc.length ≤ 30 + 10 * j := by
        have h1 := encn_len (es := binF) (vss := bins.take j) fun vs hv => hb vs (List.mem_of_mem_take hv)
        have h2 : (bins.take j).length = j := by rw [List.length_take]; omega
        rw [h2, show binF.length = 1 from rfl] at h1
        rw [hacc, List.length_append]; omega
      have fx := enc_len (zz_lt x0 x1)
      have hcat : acc.length + (enc (zz x)).length ≤ 4611686018427387904 := by omega
      have hw1 : IntKind.i64.wrap (((j : Nat) : Int) + 1) = ((j + 1 : Nat) : Int) := by rw [wI64 (by omega) (by omega)]; omega
      repeat (first | refine RQr ?_ | (refine OX ?_; (first | (refine OE ?_; try intro _) | refine OW_callP rfl (hF := Int_fn (by with_reducible assumption) (by with_reducible assumption)) (hk := ?_) | refine OW_callP rfl (hF := Num_fn' (by with_reducible assumption) (by with_reducible assumption)) (hk := ?_) | refine OW_callP rfl (hF := rW_fn (by with_reducible assumption) (by with_reducible assumption)) (hk := ?_)); try refine SD ?_) | refine RC ?_ | refine RU ?_ | refine WC_draw_all (id := 1) 14 (Cs [0,1,3,4,7,8,9,10] <| .must 2 <| .must 5 <| .calm 6 <| .must 11 <| Cs [12,13] <| .done) mixed (by kernel_rfl) ?_ | refine WC_draw_all (id := 6) 18 (Cs [0,1,2,5,6,9,10,13,14] <| .must 3 <| .calm 4 <| .must 7 <| .calm 8 <| .must 11 <| .calm 12 <| .must 15 <| Cs [16,17] <| .done) mixed (by kernel_rfl) ?_ | refine WC_region ?_)
      rw [hw1]
      refine ⟨_, _, by omega, ⟨j + 1, acc ++ enc (zz x), rfl, by omega, ?_, rfl⟩, ⟨rfl, rfl, rfl, trivial⟩, rfl, .refl _⟩
      rw [hacc, List.take_add_one, hvs, List.flatMap_append]
      simp [encs, Fk.enc]
    · have d1 : decide (((j : Nat) : Int) < ((bins.length : Nat) : Int)) = false := decide_eq_false (by omega)
      obtain rfl : j = bins.length := by omega
      rw [List.take_length] at hacc
      subst hacc
      repeat (first | refine RQr ?_ | (refine OX ?_; (first | (refine OE ?_; try intro _) | refine OW_callP rfl (hF := Int_fn (by with_reducible assumption) (by with_reducible assumption)) (hk := ?_) | refine OW_callP rfl (hF := Num_fn' (by with_reducible assumption) (by with_reducible assumption)) (hk := ?_) | refine OW_callP rfl (hF := rW_fn (by with_reducible assumption) (by with_reducible assumption)) (hk := ?_)); try refine SD ?_) | refine RC ?_ | refine RU ?_ | refine WC_draw_all (id := 1) 14 (Cs [0,1,3,4,7,8,9,10] <| .must 2 <| .must 5 <| .calm 6 <| .must 11 <| Cs [12,13] <| .done) mixed (by kernel_rfl) ?_ | refine WC_draw_all (id := 6) 18 (Cs [0,1,2,5,6,9,10,13,14] <| .must 3 <| .calm 4 <| .must 7 <| .calm 8 <| .must 11 <| .calm 12 <| .must 15 <| Cs [16,17] <| .done) mixed (by kernel_rfl) ?_ | refine WC_region ?_)
      exact ⟨_, rfl, ⟨rfl, rfl, trivial⟩, rfl, .refl _⟩
  rintro _ rfl
  have hbl : (pre ++ bins.flatMap (encs binF)).length ≤ 30 + 10 * bins.length := by
    have h1 := encn_len (es := binF) hb
    rw [show binF.length = 1 from rfl] at h1
    rw [List.length_append]; omega
  generalize hs : pre ++ bins.flatMap (encs binF) = s at hbl
  repeat (first | refine RQr ?_ | (refine OX ?_; (first | (refine OE ?_; try intro _) | refine OW_callP rfl (hF := Int_fn (by with_reducible assumption) (by with_reducible assumption)) (hk := ?_) | refine OW_callP rfl (hF := Num_fn' (by with_reducible assumption) (by with_reducible assumption)) (hk := ?_) | refine OW_callP rfl (hF := rW_fn (by with_reducible assumption) (by with_reducible assumption)) (hk := ?_) | refine OW_callP rfl (hF := rOp_fn hop hlop) (hk := ?_)); try refine SD ?_) | refine RC ?_ | refine RU ?_ | refine WC_draw_all (id := 1) 14 (Cs [0,1,3,4,7,8,9,10] <| .must 2 <| .must 5 <| .calm 6 <| .must 11 <| Cs [12,13] <| .done) mixed (by kernel_rfl) ?_ | refine WC_draw_all (id := 6) 18 (Cs [0,1,2,5,6,9,10,13,14] <| .must 3 <| .calm 4 <| .must 7 <| .calm 8 <| .must 11 <| .calm 12 <| .must 15 <| Cs [16,17] <| .done) mixed (by kernel_rfl) ?_ | refine WC_region ?_)
  refine ⟨rfl, _, _, Res1 rfl (resV_tmp rfl), .cons _ (.refl _), ?_, rfl⟩
  rw [← hs, hpre]
  simp [encCmd, encl, encs, Fk.enc]
theorem lies_size {cs : Array Value} {a : Nat} {vs : List Value} (h : Lies cs a vs) (hn : 0 < vs.length) : a + vs.length ≤ cs.size := by
  have := h (vs.length - 1) (vs[vs.length - 1]'(by omega)) (List.getElem?_eq_getElem (by omega))
  have := (Array.getElem?_eq_some_iff.1 this).1
  omega
set_option maxHeartbeats 4000000 in
theorem rChunk_fn {cs : Array Value} {L : List (Nat × Obj)} {a : Option Addr} {cap : Nat} {kh : List Value} {ents : List (List Value)} (hn : ents.length ≤ 1000000) (hkh : Oks khF kh) (hb : ∀ vs ∈ ents, Oks entryF vs) (hl : Lies cs 0 (kh ++ [.slice a ents.length cap])) (he : Elems L a 10 ents) :
    Fn Tryz.prog 52 [.agg cs] L (fun r L' => r = .string (bstr (encChunk kh ents)) ∧ L' = L) := by
  obtain ⟨v0, us0, rfl, h0, q0⟩ := hkh.split
  obtain ⟨v1, us1, rfl, h1, q1⟩ := q0.split
  obtain ⟨v2, us2, rfl, h2, q2⟩ := q1.split
  obtain rfl := q2.nil
  have f2 := enc_len_ok h2
  obtain ⟨c0, rfl, a0, b0⟩ := h0
  obtain ⟨c1, rfl, a1, b1⟩ := h1
  obtain ⟨c2, rfl⟩ := h2
  have f2' : (encB c2).length ≤ 10 := f2
  have f0 := enc_len (zz_lt a0 b0)
  have f1 := enc_len (zz_lt a1 b1)
  have uw : (IntKind.u64.wrap ((ents.length : Nat) : Int)).toNat = ents.length := by rw [wU64 (by omega) (by omega)]; omega
  have fn : (enc (IntKind.u64.wrap ((ents.length : Nat) : Int)).toNat).length ≤ 10 := by rw [uw]; exact enc_len (by omega)
  have g0 := lies0 hl (j := 0) rfl
  have g1 := lies0 hl (j := 1) rfl
  have g2 := lies0 hl (j := 2) rfl
  have g3 := lies0 hl (j := 3) rfl
  refine Fn_enter Tryz.func52 rfl Tryz.ntmps52 rfl fun g => ?_
  have u0 := u64_lo ((ents.length : Nat) : Int)
  have u1 := u64_hi ((ents.length : Nat) : Int)
  repeat (first | refine RQr ?_ | (refine OX ?_; (first | (refine OE ?_; try intro _) | refine OW_callP rfl (hF := Num_fn' (by with_reducible assumption) (by with_reducible assumption)) (hk := ?_) | refine OW_callP rfl (hF := Truth_fn) (hk := ?_) | refine OW_callP rfl (hF := rW_fn (by with_reducible assumption) (by with_reducible assumption)) (hk := ?_)); try refine SD ?_) | refine RC0 ?_ | refine RU ?_ | refine WC_block (id := 1) ?_ | refine WC_draw_all (id := 1) 18 (Cs [0,1,3,4,7,8,11,12,13,14] <| .must 2 <| .must 5 <| .calm 6 <| .must 9 <| .calm 10 <| .must 15 <| Cs [16,17] <| .done) mixed (by kernel_rfl) ?_ | refine WC_region ?_)
  clear u0 u1
  rename_i xb
  rw [uw]
  obtain ⟨pre, hpre⟩ : ∃ pre, pre = enc (zz c0) ++ enc (zz c1) ++ encB c2 ++ enc ents.length := ⟨_, rfl⟩
  rw [← hpre]
  have hprel : pre.length ≤ 40 := by
    rw [uw] at fn
    rw [hpre, List.length_append, List.length_append, List.length_append]; omega
  refine WC_meet (fun σ => σ = ⟨[(3, .string (bstr (pre ++ ents.flatMap (encs entryF)))), (1, .pointer (some ⟨xb, 0, none⟩))], [], (xb, .cells cs 34 (0, 0)) :: L⟩) ?_ ?_
  · refine WC_block (WC_wk [(4, .int .i64 0), (3, .string (bstr pre)), (1, .pointer (some ⟨xb, 0, none⟩))] ⟨rfl, rfl, rfl, trivial⟩ ?_)
    refine WC_loop (fun m σ => ∃ (j : Nat) (acc : List UInt8), m = ents.length - j ∧ j ≤ ents.length ∧ acc = pre ++ (ents.take j).flatMap (encs entryF) ∧ σ = ⟨[(4, .int .i64 (j : Nat)), (3, .string (bstr acc)), (1, .pointer (some ⟨xb, 0, none⟩))], [], (xb, .cells cs 34 (0, 0)) :: L⟩) ents.length ⟨0, pre, by omega, by omega, by simp, rfl⟩ ?_
    rintro m σ ⟨j, acc, rfl, hj, hacc, rfl⟩
    by_cases hlt : j < ents.length
    · have d1 : decide (((j : Nat) : Int) < ((ents.length : Nat) : Int)) = true := decide_eq_true (by omega)
      obtain ⟨vs, hvs⟩ : ∃ vs, ents[j]? = some vs := ⟨_, List.getElem?_eq_getElem hlt⟩
      rcases he with he | ⟨be, eo, ie, ec, EE, ef, rfl, hRe, hat⟩
      · rw [he] at hlt; simp at hlt
      obtain ⟨hle, _⟩ := hat j vs hvs
      have hov := hb vs (List.mem_of_getElem? hvs)
      have hvl := hov.len
      have hvl' : vs.length = 10 := hvl
      have hle' : Lies ec (eo + ((j : Nat) : Int).toNat * 10) vs := hle
      have hfit : eo + ((j : Nat) : Int).toNat * 10 + 10 ≤ ec.size := by have := lies_size hle' (by omega); rwa [hvl'] at this
      have hzE := size_extract hfit
      have hlE := lies_extract hle' (n := 10) (by omega)
      have i1 : ((j : Nat) : Int) < ((ents.length : Nat) : Int) := by omega
      have i0 : 0 ≤ ((j : Nat) : Int) := by omega
      have hXe : ((xb, Obj.cells cs 34 (0, 0)) :: L)[ie + 1]? = some (be, .cells ec EE ef) := hRe
      have hal : acc.length ≤ 40 + 100 * j := by
        have h1 := encn_len (es := entryF) (vss := ents.take j) fun vs hv => hb vs (List.mem_of_mem_take hv)
        have h2 : (ents.take j).length = j := by rw [List.length_take]; omega
        rw [h2, show entryF.length = 10 from rfl] at h1
        rw [hacc, List.length_append]; omega
      have fx := encs_len hov
      rw [show entryF.length = 10 from rfl] at fx
      have hcat : acc.length + (encs entryF vs).length ≤ 4611686018427387904 := by omega
      have hw1 : IntKind.i64.wrap (((j : Nat) : Int) + 1) = ((j + 1 : Nat) : Int) := by rw [wI64 (by omega) (by omega)]; omega
      repeat (first | refine RQr ?_ | (refine OX ?_; (first | (refine OE ?_; try intro _) | refine OW_callP rfl (hF := Num_fn' (by with_reducible assumption) (by with_reducible assumption)) (hk := ?_) | refine OW_callP rfl (hF := Truth_fn) (hk := ?_) | refine OW_callP rfl (hF := rW_fn (by with_reducible assumption) (by with_reducible assumption)) (hk := ?_) | refine OW_callP rfl (hF := rEntry_fn hzE hov hlE) (hk := ?_)); try refine SD ?_) | refine RC ?_ | refine RU ?_ | refine WC_draw_all (id := 1) 18 (Cs [0,1,3,4,7,8,11,12,13,14] <| .must 2 <| .must 5 <| .calm 6 <| .must 9 <| .calm 10 <| .must 15 <| Cs [16,17] <| .done) mixed (by kernel_rfl) ?_ | refine WC_region ?_)
      rw [hw1]
      refine ⟨_, _, by omega, ⟨j + 1, acc ++ encs entryF vs, rfl, by omega, ?_, rfl⟩, ⟨rfl, rfl, rfl, trivial⟩, rfl, .refl _⟩
      rw [hacc, List.take_add_one, hvs, List.flatMap_append]
      simp
    · have d1 : decide (((j : Nat) : Int) < ((ents.length : Nat) : Int)) = false := decide_eq_false (by omega)
      obtain rfl : j = ents.length := by omega
      rw [List.take_length] at hacc
      subst hacc
      repeat (first | refine RQr ?_ | (refine OX ?_; (first | (refine OE ?_; try intro _) | refine OW_callP rfl (hF := Num_fn' (by with_reducible assumption) (by with_reducible assumption)) (hk := ?_) | refine OW_callP rfl (hF := Truth_fn) (hk := ?_) | refine OW_callP rfl (hF := rW_fn (by with_reducible assumption) (by with_reducible assumption)) (hk := ?_) | refine OW_callP rfl (hF := rEntry_fn hzE hov hlE) (hk := ?_)); try refine SD ?_) | refine RC ?_ | refine RU ?_ | refine WC_draw_all (id := 1) 18 (Cs [0,1,3,4,7,8,11,12,13,14] <| .must 2 <| .must 5 <| .calm 6 <| .must 9 <| .calm 10 <| .must 15 <| Cs [16,17] <| .done) mixed (by kernel_rfl) ?_ | refine WC_region ?_)
      exact ⟨_, rfl, ⟨rfl, rfl, trivial⟩, rfl, .refl _⟩
  rintro _ rfl
  repeat (first | refine RQr ?_ | (refine OX ?_; (first | (refine OE ?_; try intro _) | refine OW_callP rfl (hF := Num_fn' (by with_reducible assumption) (by with_reducible assumption)) (hk := ?_) | refine OW_callP rfl (hF := Truth_fn) (hk := ?_) | refine OW_callP rfl (hF := rW_fn (by with_reducible assumption) (by with_reducible assumption)) (hk := ?_) | refine OW_callP rfl (hF := rEntry_fn hzE hov hlE) (hk := ?_)); try refine SD ?_) | refine RC ?_ | refine RU ?_ | refine WC_draw_all (id := 1) 18 (Cs [0,1,3,4,7,8,11,12,13,14] <| .must 2 <| .must 5 <| .calm 6 <| .must 9 <| .calm 10 <| .must 15 <| Cs [16,17] <| .done) mixed (by kernel_rfl) ?_ | refine WC_region ?_)
  refine ⟨rfl, _, _, Res1 rfl (resV_tmp rfl), .cons _ (.refl _), ?_, rfl⟩
  rw [hpre]
  simp [encChunk, encl, encs, Fk.enc]
end Go.Proofs.YtgimodceldoniaaGreatDoor
namespace Go.Proofs.YtgimodceldoniaaGreatDoor
open Go.RowKit
attribute [local irreducible] Fn WC WL WR OW Qt YieldFn QW FnP FnD FnE
theorem ok_one {k : Fk} {v : Value} (h : k.ok v) : v.oneCell' = true := by
  cases k with
  | ww => obtain ⟨x, rfl, _⟩ := h; rfl
  | nn => obtain ⟨x, rfl, _⟩ := h; rfl
  | kk => obtain ⟨x, rfl, _⟩ := h; rfl
  | tt => obtain ⟨x, rfl⟩ := h; rfl
  | bb => obtain ⟨x, rfl⟩ := h; rfl
theorem oks_one : ∀ {fs : List Fk} {vs : List Value}, Oks fs vs → ∀ v ∈ vs, v.oneCell' = true
  | [], [], _, v, hv => by cases hv
  | _ :: _, _ :: _, h, v, hv => by
    rcases List.mem_cons.1 hv with rfl | hv
    · exact ok_one h.1
    · exact oks_one h.2 v hv
  | [], _ :: _, h, _, _ => h.elim
  | _ :: _, [], h, _, _ => h.elim
theorem lies_whole {cs : Array Value} {vs : List Value} (hl : Lies cs 0 vs) (hz : cs.size = vs.length) : cs = vs.toArray := by
  apply Array.ext_getElem?
  intro j
  by_cases h : j < vs.length
  · have := hl j _ (List.getElem?_eq_getElem h)
    rw [Nat.zero_add] at this
    rw [this]; simp [h]
  · rw [Array.getElem?_eq_none (by omega), Array.getElem?_eq_none (by simp; omega)]
theorem MV.cells_len {m : MV} (h : m.Ok) (a : Option Addr) (cap : Nat) (a' : Option Addr) (cap' : Nat) : (m.cells a cap a' cap').length = 24 := by
  have l1 := h.rc.len
  have l2 := h.ch.len
  have l3 := h.ct.len
  have l4 := h.kh.len
  simp only [List.length_cons, List.length_nil] at l1 l2 l3 l4
  unfold MV.cells
  simp only [List.length_append, List.length_cons, List.length_nil]
  omega
theorem MV.all_one {m : MV} (h : m.Ok) {cs : Array Value} {a : Option Addr} {cap : Nat} {a' : Option Addr} {cap' : Nat} (hz : cs.size = 24) (hl : Lies cs 0 (m.cells a cap a' cap')) : (cs.toList.all fun v => v.oneCell') = true := by
  rw [lies_whole hl (by rw [MV.cells_len h]; exact hz), List.all_eq_true]
  intro v hv
  have hv : v ∈ m.cells a cap a' cap' := by simpa using hv
  unfold MV.cells at hv
  simp only [List.mem_append, List.mem_cons, List.not_mem_nil, or_false] at hv
  rcases hv with (rfl | rfl) | hv | (rfl | rfl) | (hv | rfl | hv) | hv | rfl
  · rfl
  · rfl
  · exact oks_one h.rc v hv
  · rfl
  · rfl
  · exact oks_one h.ch v hv
  · rfl
  · exact oks_one h.ct v hv
  · exact oks_one h.kh v hv
  · rfl
theorem Elems.cons {R : List (Nat × Obj)} {a : Option Addr} {n : Nat} {vss : List (List Value)} (p : Nat × Obj) (h : Elems R a n vss) : Elems (p :: R) a n vss := h.mem fun _ hq => List.mem_cons_of_mem _ hq
structure MsgAt (L : List (Nat × Obj)) (cs : Array Value) (m : MV) (a : Option Addr) (cap : Nat) (a' : Option Addr) (cap' : Nat) : Prop where
  ok : m.Ok
  size : cs.size = 24
  lies : Lies cs 0 (m.cells a cap a' cap')
  bins : Elems L a 1 m.bins
  ents : Elems L a' 10 m.ents
  c1 : m.bins.length ≤ cap
  c2 : m.ents.length ≤ cap'
  m1 : cap ≤ maxLen
  m2 : cap' ≤ maxLen
theorem MsgAt.cons {L : List (Nat × Obj)} {cs : Array Value} {m : MV} {a : Option Addr} {cap : Nat} {a' : Option Addr} {cap' : Nat} (p : Nat × Obj) (h : MsgAt L cs m a cap a' cap') : MsgAt (p :: L) cs m a cap a' cap' := ⟨h.ok, h.size, h.lies, h.bins.cons p, h.ents.cons p, h.c1, h.c2, h.m1, h.m2⟩
theorem PMsg_at {L : List (Nat × Obj)} {v : Value} {bs : List UInt8} {cs : Array Value} {m : MV} {a : Option Addr} {cap : Nat} {a' : Option Addr} {cap' : Nat} (h : MsgAt L cs m a cap a' cap') (hb : ByAt L v bs) (hn : m.bins.length ≤ 1000000) (hn' : m.ents.length ≤ 100000) (hroom : bs.length ≤ 900000000) : Fn Tryz.prog 14 [v, .agg cs] L (fun r L' => LaidAt r L L' (bs ++ m.enc)) :=
  PMsg_fn hb h.size h.ok hn hn' h.lies h.bins h.ents hroom
end Go.Proofs.YtgimodceldoniaaGreatDoor
namespace Go.Proofs.YtgimodceldoniaaGreatDoor
open Go.RowKit
theorem part1 {P : Program} {t : TypeId} [ha : TAgg P t false] {xs : Array Value} {off : Nat} {v : Value} (h : xs[off]? = some v) (w : World) : (part t xs off).run P w = .ok v w := by
  simp [part, ha.h, h]
theorem partN {P : Program} {t n : Nat} [ha : TAgg P t true] [hs : TSize P t n] {xs : Array Value} {off : Nat} (w : World) : (part t xs off).run P w = .ok (.agg (xs.extract off (off + n))) w := by
  simp [part, ha.h, hs.h]
end Go.Proofs.YtgimodceldoniaaGreatDoor
namespace Go.Proofs.YtgimodceldoniaaGreatDoor
open Go.RowKit
def WCn (c : Cx) (x : Code) (K : Exit → St → Prop) : Nat → St → Prop
  | 0, _ => False
  | m + 1, σ => WC c x (thenK (WCn c x K m) K) σ
theorem WCn.rounds {c : Cx} {x : Code} {K : Exit → St → Prop} : ∀ {m : Nat} {σ : St}, WCn c x K m σ → ∀ a w, Holds c.g c.N σ a w → Code.roundsIn (Fw c.r) c.n c.P x (lift c K) m a w
  | 0, _, h, _, _, _ => h.elim
  | m + 1, σ, h, a, w, ha => by
    rw [roundsIn_succ]
    refine Go.wpIn_mono ((show WC c x (thenK (WCn c x K m) K) σ from h) a w ha) fun e a' w' hl => ?_
    obtain ⟨σ', h1, h2⟩ := hl
    cases e with
    | normal => exact WCn.rounds (m := m) h2 a' w' h1
    | _ => exact ⟨σ', h1, h2⟩
theorem WC_unroll {c : Cx} {x : Code} {K : Exit → St → Prop} {σ : St} (m : Nat) (h : WCn c x K m σ) : WC c (.loop x) K σ := fun a w ha => wpIn_loop_rounds m (h.rounds a w ha)
theorem WCn_s {c : Cx} {x : Code} {K : Exit → St → Prop} {m : Nat} {σ : St} (h : WC c x (thenK (WCn c x K m) K) σ) : WCn c x K (m + 1) σ := h
def FilledA (n : Nat) : Array Value → List (Nat × Value) → Array Value → Prop
  | z, [], cs => cs = z
  | z, (i, v) :: r, cs => v.cells.size = n ∧ i * n + n ≤ z.size ∧ FilledA n (putR z (i * n) v.cells) r cs
theorem fill_of_FilledA {n : Nat} : ∀ {parts : List (Nat × Value)} {z cs : Array Value}, FilledA n z parts cs → Instr.fill (fun i => some (i * n, n)) z parts = some cs
  | [], z, cs, h => by cases h; rfl
  | (i, v) :: r, z, cs, ⟨h2, h3, h4⟩ => by
    simp only [Instr.fill]
    rw [if_neg (by simp [h2]; omega)]
    have hf := fold_put v.cells.toList 0 (i * n) z (by simp; omega)
    have he : (v.cells.zipIdx.foldl (fun (cs : Array Value) (p : Value × Nat) => cs.setIfInBounds (i * n + p.2) p.1) z) = putR z (i * n) v.cells := by
      rw [← Array.foldl_toList, Array.toList_zipIdx, hf]
      simp
    have hh := fill_of_FilledA h4
    rw [← he] at hh
    exact hh
class TBuildA (P : Program) (t : TypeId) (z : outParam (Array Value)) (n : outParam Nat) : Prop where
  h : ∀ parts, P.built t parts = Instr.fill (fun i => some (i * n, n)) z parts
theorem Qt_buildA {c : Cx} {s : List (Nat × Value)} {L : List (Nat × Obj)} {o : Oper} {t : TypeId} {z : Array Value} {n : Nat} [hb : TBuildA c.P t z n] {parts : Array (Nat × Operand)} {vs : List (Nat × Value)} {cs : Array Value} (ho : o.op = .build t parts) (hx : evp s parts.toList = some vs := by exact rfl) (hf : FilledA n z vs cs := by repeat (first | exact rfl | refine ⟨(by first | with_reducible assumption | rfl | assumption), (by first | exact Nat.le_of_ble_eq_true rfl | omega), ?_⟩)) : Qt c s L o (.agg cs) :=
  ⟨(fun cc => by simp [ho]), fun ρ hρ w _ => by
    have h1 := evp_map hρ hx
    have h2 := run_build (P := c.P) w t (parts.map fun (i, x) => (i, ρ x)) cs (by
      rw [hb.h, Array.toList_map, h1]
      have := fill_of_FilledA hf
      simpa using this)
    simp [execOp, ho, h2]⟩
section
variable {c : Cx} {s : List (Nat × Value)} {L : List (Nat × Obj)} {o : Oper}
theorem Qt_indexA {t len E n : Nat} [hu : TUnd c.P t (.array len E)] [hs : TSize c.P E n] [ha : TAgg c.P E true] {x y : Operand} {k : IntKind} {i : Int} {vs : Array Value} (ho : o.op = .index t x y) (hx : ev s x = some (.agg vs) := by exact rfl) (hy : ev s y = some (.int k i) := by exact rfl) (h0 : 0 ≤ i := by first | decide | with_reducible assumption | omega) (h1 : i < len := by first | decide | with_reducible assumption | omega) : Qt c s L o (.agg (vs.extract (i.toNat * n) (i.toNat * n + n))) :=
  Qt_of_run (by simp [ho]) (fun ρ hρ w _ => by
    have h := partN (P := c.P) (t := E) (n := n) (xs := vs) (off := i.toNat * n) w
    simp [execOp, ho, hρ x _ hx, hρ y _ hy, Instr.index, asIntOf, run_underlying hu.h, hs.h, h0, h1, h])
theorem Qt_ldX {t b off n : Nat} [TAgg c.P t true] [TSize c.P t n] {x : Operand} {cs vs : Array Value} {E : TypeId} {fr : Nat × Nat} (ho : o.op = .load t x) (hx : ev s x = some (.pointer (some ⟨b, off, none⟩)) := by exact rfl) (hi : ∃ i : Nat, L[i]? = some (b, .cells cs E fr) := by first | exact ⟨0, rfl⟩ | exact ⟨1, rfl⟩ | exact ⟨2, rfl⟩ | exact ⟨3, rfl⟩ | exact ⟨4, rfl⟩ | exact ⟨5, rfl⟩ | exact ⟨6, rfl⟩ | exact ⟨7, rfl⟩ | exact ⟨8, rfl⟩) (hv : cs.extract off (off + n) = vs := by with_reducible assumption) (hn : off + n ≤ cs.size := by exact Nat.le_of_ble_eq_true rfl) : Qt c s L o (.agg vs) := by
  obtain ⟨i, h⟩ := hi
  subst hv
  exact Qt_loadN ho hx i h hn
end
end Go.Proofs.YtgimodceldoniaaGreatDoor
namespace Go.Proofs.YtgimodceldoniaaGreatDoor
open Go.RowKit
attribute [local irreducible] Fn WC WL WR OW Qt YieldFn QW FnP FnD FnE
structure GV where
  life : Int
  chan : Int
  ack : Bool
  seq : Int
  room : Int
  m : MV
def GV.cells (g : GV) (a : Option Addr) (cap : Nat) (a' : Option Addr) (cap' : Nat) : List Value := [.int .i64 g.life, .int .i64 g.chan, .bool g.ack, .int .u64 g.seq, .int .i64 g.room] ++ g.m.cells a cap a' cap'
structure GV.Ok (g : GV) : Prop where
  life : i64r g.life
  chan : i64r g.chan
  s0 : 0 ≤ g.seq
  s1 : g.seq < 18446744073709551616
  room : i64r g.room
  m : g.m.Ok
structure GramAt (L : List (Nat × Obj)) (gs : Array Value) (g : GV) (a : Option Addr) (cap : Nat) (a' : Option Addr) (cap' : Nat) : Prop extends GV.Ok g where
  lit : gs = (g.cells a cap a' cap').toArray
  bins : Elems L a 1 g.m.bins
  ents : Elems L a' 10 g.m.ents
  c1 : g.m.bins.length ≤ cap
  c2 : g.m.ents.length ≤ cap'
  m1 : cap ≤ maxLen
  m2 : cap' ≤ maxLen
theorem GramAt.mem {L L' : List (Nat × Obj)} {gs : Array Value} {g : GV} {a : Option Addr} {cap : Nat} {a' : Option Addr} {cap' : Nat} (h : GramAt L gs g a cap a' cap') (hs : ∀ q ∈ L, q ∈ L') : GramAt L' gs g a cap a' cap' := ⟨h.toOk, h.lit, h.bins.mem hs, h.ents.mem hs, h.c1, h.c2, h.m1, h.m2⟩
theorem GramAt.cons {L : List (Nat × Obj)} {gs : Array Value} {g : GV} {a : Option Addr} {cap : Nat} {a' : Option Addr} {cap' : Nat} (p : Nat × Obj) (h : GramAt L gs g a cap a' cap') : GramAt (p :: L) gs g a cap a' cap' := h.mem fun _ hq => List.mem_cons_of_mem _ hq
theorem GramAt.msg {L : List (Nat × Obj)} {gs : Array Value} {g : GV} {a : Option Addr} {cap : Nat} {a' : Option Addr} {cap' : Nat} (h : GramAt L gs g a cap a' cap') : MsgAt L (g.m.cells a cap a' cap').toArray g.m a cap a' cap' := ⟨h.m, MV.cells_len h.m _ _ _ _, (fun j v h => by rw [Nat.zero_add, List.getElem?_toArray]; exact h), h.bins, h.ents, h.c1, h.c2, h.m1, h.m2⟩
theorem GramAt.one {L : List (Nat × Obj)} {gs : Array Value} {g : GV} {a : Option Addr} {cap : Nat} {a' : Option Addr} {cap' : Nat} (h : GramAt L gs g a cap a' cap') : (gs.toList.all fun v => v.oneCell') = true := by
  have h2 := MV.all_one h.m h.msg.size h.msg.lies
  rw [h.lit]
  show (([_, _, _, _, _] ++ g.m.cells a cap a' cap').all _) = true
  rw [List.all_append]
  have : ((g.m.cells a cap a' cap').all fun v => v.oneCell') = true := h2
  rw [this]; rfl
theorem GramAt.size {L : List (Nat × Obj)} {gs : Array Value} {g : GV} {a : Option Addr} {cap : Nat} {a' : Option Addr} {cap' : Nat} (h : GramAt L gs g a cap a' cap') : gs.size = 29 := by
  rw [h.lit]
  show ([_, _, _, _, _] ++ g.m.cells a cap a' cap').length = 29
  rw [List.length_append, MV.cells_len h.m]; rfl
end Go.Proofs.YtgimodceldoniaaGreatDoor
namespace Go.Proofs.YtgimodceldoniaaGreatDoor
open Go.RowKit
attribute [local irreducible] Fn WC WL WR OW Qt YieldFn QW FnP FnD FnE
instance : TBuildA Tryz.prog 55 zc55 3 := ⟨fun _ => by kernel_rfl⟩
def inB (n most : Int) : Bool := decide (0 ≤ n) && decide (n ≤ most)
def GV.head (g : GV) : List UInt8 := ((enc g.life.toNat ++ enc g.chan.toNat) ++ encB g.ack) ++ enc g.seq.toNat
def GV.many (g : GV) : Bool := (g.m.kind == 3 && decide (8 < g.m.bins.length)) || (g.m.kind == 4 && decide (64 < g.m.ents.length))
def GV.put (g : GV) : List UInt8 × Nat :=
  if inB g.life 65535 = false then ([], 2) else if inB g.chan 99 = false then ([], 2) else if (g.ack && !inB g.room 16) = true then ([], 2)
  else if g.ack = true then (g.head ++ enc g.room.toNat, 0) else if inB g.m.kind 4 = false then ([], 6) else if g.many = true then ([], 4) else (g.head ++ g.m.enc, 0)
theorem right_fn {n most : Int} {c : Bool} {L : List (Nat × Obj)} : Fn Tryz.prog 11 [.agg #[.int .i64 n, .int .i64 most, .bool c]] L (fun v L' => v = .bool (!c || inB n most) ∧ L' = L) := by
  refine Fn_enter Tryz.func11 rfl Tryz.ntmps11 rfl fun g => ?_
  cases c
  · repeat (first | refine RQ ?_ | ((first | refine WL_Q ?_ | refine WL_Y ?_); (first | refine QW_of (Qt_indexA rfl) ?_ | refine QW_of (Qt_buildA rfl) ?_ | refine QW_of (Qt_ldX rfl) ?_)) | (refine RE ?_; try intro _) | refine RC ?_ | refine WC_region ?_)
    exact ⟨rfl, _, _, Res1 rfl (resV_tmp rfl), .cons _ (.refl _), rfl, rfl⟩
  · by_cases h : 0 ≤ n
    · have d : decide (n ≥ 0) = true := decide_eq_true h
      repeat (first | refine RQ ?_ | ((first | refine WL_Q ?_ | refine WL_Y ?_); (first | refine QW_of (Qt_indexA rfl) ?_ | refine QW_of (Qt_buildA rfl) ?_ | refine QW_of (Qt_ldX rfl) ?_)) | (refine RE ?_; try intro _) | refine RC ?_ | refine WC_region ?_)
      refine ⟨rfl, _, _, Res1 rfl (resV_tmp rfl), .cons _ (.refl _), ?_, rfl⟩
      simp [inB, h]
    · have d : decide (n ≥ 0) = false := decide_eq_false h
      repeat (first | refine RQ ?_ | ((first | refine WL_Q ?_ | refine WL_Y ?_); (first | refine QW_of (Qt_indexA rfl) ?_ | refine QW_of (Qt_buildA rfl) ?_ | refine QW_of (Qt_ldX rfl) ?_)) | (refine RE ?_; try intro _) | refine RC ?_ | refine WC_region ?_)
      refine ⟨rfl, _, _, Res1 rfl (resV_tmp rfl), .cons _ (.refl _), ?_, rfl⟩
      simp [inB, h]
theorem enc_le {n : Nat} (h : n < 18446744073709551616) : (enc n).length ≤ 10 := Go.Proofs.YtgimodceldoniaaGreatDoor.enc_len h
set_option maxHeartbeats 16000000 in
set_option maxRecDepth 100000 in
theorem Put_fn {L : List (Nat × Obj)} {gs : Array Value} {g : GV} {a : Option Addr} {cap : Nat} {a' : Option Addr} {cap' : Nat} (h : GramAt L gs g a cap a' cap') (hb : g.m.bins.length ≤ 1000) (he : g.m.ents.length ≤ 1000) :
    Fn Tryz.prog 7 [.agg gs] L (fun v L' => v = .tuple #[.string (bstr g.put.1), .int .i64 (g.put.2 : Nat)] ∧ L' = L) := by
  have h1 := h.c1; have h2 := h.c2; have h3 := h.m1; have h4 := h.m2
  have hlit := h.lit
  have hone := h.one
  have hM := h.msg
  have hl := h.life; have hc := h.chan; have hr := h.room; have hs0 := h.s0; have hs1 := h.s1
  obtain ⟨life, chan, ack, seq, room, ⟨kind, ver, rc, time, num, ch, bins, ct, kh, ents⟩⟩ := g
  have hrc := h.m.rc; have hch := h.m.ch; have hct := h.m.ct; have hkh := h.m.kh
  have hbins := h.m.bins; have hents := h.m.ents
  have hki := h.m.kind; have hve := h.m.ver; have hti := h.m.time; have hnu := h.m.num
  dsimp only at hrc hch hct hkh hbins hents hki hve hti hnu
  have w0 := hrc
  obtain ⟨r0, us, rfl, _, w1⟩ := w0.split
  obtain ⟨r1, us, rfl, _, w2⟩ := w1.split
  obtain ⟨r2, us, rfl, _, w3⟩ := w2.split
  obtain ⟨r3, us, rfl, _, w4⟩ := w3.split
  obtain ⟨r4, us, rfl, _, w5⟩ := w4.split
  obtain ⟨r5, us, rfl, _, w6⟩ := w5.split
  obtain rfl := w6.nil
  have w0 := hch
  obtain ⟨c0, us, rfl, _, w1⟩ := w0.split
  obtain ⟨c1, us, rfl, _, w2⟩ := w1.split
  obtain rfl := w2.nil
  have w0 := hct
  obtain ⟨t0, us, rfl, _, w1⟩ := w0.split
  obtain ⟨t1, us, rfl, _, w2⟩ := w1.split
  obtain ⟨t2, us, rfl, _, w3⟩ := w2.split
  obtain ⟨t3, us, rfl, _, w4⟩ := w3.split
  obtain ⟨t4, us, rfl, _, w5⟩ := w4.split
  obtain ⟨t5, us, rfl, _, w6⟩ := w5.split
  obtain ⟨t6, us, rfl, _, w7⟩ := w6.split
  obtain rfl := w7.nil
  have w0 := hkh
  obtain ⟨k0, us, rfl, _, w1⟩ := w0.split
  obtain ⟨k1, us, rfl, _, w2⟩ := w1.split
  obtain ⟨k2, us, rfl, _, w3⟩ := w2.split
  obtain rfl := w3.nil
  have hlit' : gs = #[.int .i64 life, .int .i64 chan, .bool ack, .int .u64 seq, .int .i64 room, .int .i64 kind, .int .i64 ver, r0, r1, r2, r3, r4, r5, .int .i64 time, .int .i64 num, c0, c1, .slice a bins.length cap, t0, t1, t2, t3, t4, t5, t6, k0, k1, k2, .slice a' ents.length cap'] := hlit
  subst hlit'
  dsimp only at h1 h2 hl hc hr hs0 hs1 hb he
  refine Fn_enter Tryz.func7 rfl Tryz.ntmps7 rfl fun g => ?_
  repeat (first | refine RQ ?_ | (refine WL_Q ?_; (first | refine QW_of (Qt_indexA rfl) ?_ | refine QW_of (Qt_buildA rfl) ?_ | refine QW_of (Qt_ldX rfl) ?_)) | (refine RE ?_; try intro _) | refine RC ?_ | refine WG 0 ?_ | refine WG 1 ?_)
  rename_i x1
  refine WC_unroll 4 (WCn_s ?_)
  have leaf : ∀ {bs : List UInt8} {n : Nat}, (GV.put ⟨life, chan, ack, seq, room, ⟨kind, ver, [r0, r1, r2, r3, r4, r5], time, num, [c0, c1], bins, [t0, t1, t2, t3, t4, t5, t6], [k0, k1, k2], ents⟩⟩) = (bs, n) → (Value.tuple #[.string (bstr bs), .int .i64 (n : Nat)]) = .tuple #[.string (bstr (GV.put ⟨life, chan, ack, seq, room, ⟨kind, ver, [r0, r1, r2, r3, r4, r5], time, num, [c0, c1], bins, [t0, t1, t2, t3, t4, t5, t6], [k0, k1, k2], ents⟩⟩).1), .int .i64 ((GV.put ⟨life, chan, ack, seq, room, ⟨kind, ver, [r0, r1, r2, r3, r4, r5], time, num, [c0, c1], bins, [t0, t1, t2, t3, t4, t5, t6], [k0, k1, k2], ents⟩⟩).2 : Nat)] := fun e => by rw [e]
  cases b1 : inB life 65535
  · have d1 : (!(!true || inB life 65535)) = true := by rw [b1]; rfl
    repeat (first | refine RQ ?_ | (refine WL_Q ?_; (first | refine QW_of (Qt_indexA rfl) ?_ | refine QW_of (Qt_buildA rfl) ?_ | refine QW_of (Qt_ldX rfl) ?_)) | (refine RE ?_; try intro _) | (refine WL_op rfl ?_; (first | refine OW_callP rfl (hF := right_fn) (hk := ?_))) | refine RC ?_ | refine WG 2 ?_ | refine WG 3 ?_ | refine WG 4 ?_ | refine WG 5 ?_)
    exact ⟨rfl, _, L, Res2 rfl (resV_tmp rfl) (resV_tmp rfl), (by repeat (first | exact List.Sublist.refl _ | apply List.Sublist.cons)), leaf (by simp [GV.put, b1]), rfl⟩
  have d1 : (!(!true || inB life 65535)) = false := by rw [b1]; rfl
  cases b2 : inB chan 99
  · have d2 : (!(!true || inB chan 99)) = true := by rw [b2]; rfl
    repeat (first | refine RQ ?_ | (refine WL_Q ?_; (first | refine QW_of (Qt_indexA rfl) ?_ | refine QW_of (Qt_buildA rfl) ?_ | refine QW_of (Qt_ldX rfl) ?_)) | (refine RE ?_; try intro _) | (refine WL_op rfl ?_; (first | refine OW_callP rfl (hF := right_fn) (hk := ?_))) | refine RC ?_ | refine WG 2 ?_ | refine WG 3 ?_ | refine WG 4 ?_ | refine WG 5 ?_ | refine WG 6 ?_)
    exact ⟨rfl, _, L, Res2 rfl (resV_tmp rfl) (resV_tmp rfl), (by repeat (first | exact List.Sublist.refl _ | apply List.Sublist.cons)), leaf (by simp [GV.put, b1, b2]), rfl⟩
  have d2 : (!(!true || inB chan 99)) = false := by rw [b2]; rfl
  cases b3 : (!ack || inB room 16)
  · have d3 : (!(!ack || inB room 16)) = true := by rw [b3]; rfl
    have b3' : (ack && !inB room 16) = true := by cases ack <;> simp_all
    repeat (first | refine RQ ?_ | (refine WL_Q ?_; (first | refine QW_of (Qt_indexA rfl) ?_ | refine QW_of (Qt_buildA rfl) ?_ | refine QW_of (Qt_ldX rfl) ?_)) | (refine RE ?_; try intro _) | (refine WL_op rfl ?_; (first | refine OW_callP rfl (hF := right_fn) (hk := ?_))) | refine RC ?_ | refine WG 2 ?_ | refine WG 3 ?_ | refine WG 4 ?_ | refine WG 5 ?_ | refine WG 6 ?_)
    exact ⟨rfl, _, L, Res2 rfl (resV_tmp rfl) (resV_tmp rfl), (by repeat (first | exact List.Sublist.refl _ | apply List.Sublist.cons)), leaf (by simp [GV.put, b1, b2, b3']), rfl⟩
  have d3 : (!(!ack || inB room 16)) = false := by rw [b3]; rfl
  have b3' : (ack && !inB room 16) = false := by cases ack <;> simp_all
  repeat (first | refine RQ ?_ | (refine WL_Q ?_; (first | refine QW_of (Qt_indexA rfl) ?_ | refine QW_of (Qt_buildA rfl) ?_ | refine QW_of (Qt_ldX rfl) ?_)) | (refine RE ?_; try intro _) | (refine WL_op rfl ?_; (first | refine OW_callP rfl (hF := right_fn) (hk := ?_))) | refine RC ?_ | refine WG 2 ?_ | refine WG 3 ?_ | refine WG 4 ?_ | refine WG 5 ?_ | refine WG 6 ?_)
  refine WC_wk [(1, .pointer (some ⟨x1, 0, none⟩))] ⟨rfl, trivial⟩ ?_
  refine WC_dropL ((x1, Obj.cells #[.int .i64 life, .int .i64 chan, .bool ack, .int .u64 seq, .int .i64 room, .int .i64 kind, .int .i64 ver, r0, r1, r2, r3, r4, r5, .int .i64 time, .int .i64 num, c0, c1, .slice a bins.length cap, t0, t1, t2, t3, t4, t5, t6, k0, k1, k2, .slice a' ents.length cap'] 38 (0, 0)) :: L) (.cons _ (.cons _ (.cons _ (.refl _)))) ?_
  have q1 : 0 ≤ life ∧ life ≤ 65535 := by simpa [inB] using b1
  have q2 : 0 ≤ chan ∧ chan ≤ 99 := by simpa [inB] using b2
  have el : IntKind.u64.wrap life = life := wU64 (by omega) (by omega)
  have ec : IntKind.u64.wrap chan = chan := wU64 (by omega) (by omega)
  have le1 := enc_le (n := (IntKind.u64.wrap life).toNat) (by rw [el]; omega)
  have le2 := enc_le (n := (IntKind.u64.wrap chan).toNat) (by rw [ec]; omega)
  have le3 : (encB ack).length ≤ 10 := by cases ack <;> simp [encB]
  have le4 := enc_le (n := seq.toNat) (by omega)
  have hhead : ([] ++ enc (IntKind.u64.wrap life).toNat ++ enc (IntKind.u64.wrap chan).toNat ++ encB ack ++ enc seq.toNat) = (GV.head ⟨life, chan, ack, seq, room, ⟨kind, ver, [r0, r1, r2, r3, r4, r5], time, num, [c0, c1], bins, [t0, t1, t2, t3, t4, t5, t6], [k0, k1, k2], ents⟩⟩) := by rw [el, ec, List.nil_append]; rfl
  have hlen : (GV.head ⟨life, chan, ack, seq, room, ⟨kind, ver, [r0, r1, r2, r3, r4, r5], time, num, [c0, c1], bins, [t0, t1, t2, t3, t4, t5, t6], [k0, k1, k2], ents⟩⟩).length ≤ 40 := by rw [← hhead]; simp only [List.length_append, List.length_nil]; omega
  have u0 := u64_lo life; have u1 := u64_hi life; have u2 := u64_lo chan; have u3 := u64_hi chan
  repeat (first | refine RQr ?_ | (refine RX ?_; (first | refine QW_of (Qt_indexA rfl) ?_ | refine QW_of (Qt_buildA rfl) ?_ | refine QW_of (Qt_ldX rfl) ?_)) | (refine OX ?_; (first | (refine OW_call rfl (hF := P_fn' (by first | exact ByAt.nil _ | exact own_by0 (by with_reducible assumption)) (by with_reducible assumption) (by with_reducible assumption) (by simp only [List.length_append, List.length_nil]; omega)) (hk := ?_); rintro _ _ ⟨p1, off1, cap1, cur1, rfl, rfl, ho1⟩) | (refine OW_call rfl (hF := PBool_fn (own_by0 (by with_reducible assumption)) (by simp only [List.length_append, List.length_nil]; omega)) (hk := ?_); rintro _ _ ⟨p1, off1, cap1, cur1, rfl, rfl, ho1⟩)); try refine SD ?_) | refine RC ?_ | refine RU ?_ | refine WC_draw_all (id := 7) 15 (Cs [0,1,2,4,5,6,8,9,11,12] <| .must 3 <| .must 7 <| .must 10 <| .must 13 <| .calm 14 <| .done) mixed (by kernel_rfl) ?_)
  rw [hhead] at ho1 ⊢
  obtain ⟨H, hH⟩ : ∃ H, H = GV.head ⟨life, chan, ack, seq, room, ⟨kind, ver, [r0, r1, r2, r3, r4, r5], time, num, [c0, c1], bins, [t0, t1, t2, t3, t4, t5, t6], [k0, k1, k2], ents⟩⟩ := ⟨_, rfl⟩
  rw [← hH] at ho1 hlen ⊢
  have hOH := ho1
  refine WC_wk [(6, .slice (some ⟨p1, off1, none⟩) H.length cap1), (1, .pointer (some ⟨x1, 0, none⟩))] ⟨rfl, rfl, trivial⟩ ?_
  refine WC_dropL ((p1, Obj.cells cur1 5 (0, 0)) :: (x1, Obj.cells #[.int .i64 life, .int .i64 chan, .bool ack, .int .u64 seq, .int .i64 room, .int .i64 kind, .int .i64 ver, r0, r1, r2, r3, r4, r5, .int .i64 time, .int .i64 num, c0, c1, .slice a bins.length cap, t0, t1, t2, t3, t4, t5, t6, k0, k1, k2, .slice a' ents.length cap'] 38 (0, 0)) :: L) (.cons_cons _ (.cons _ (.cons _ (.cons _ (.refl _))))) ?_
  have hx5 : (#[.int .i64 life, .int .i64 chan, .bool ack, .int .u64 seq, .int .i64 room, .int .i64 kind, .int .i64 ver, r0, r1, r2, r3, r4, r5, .int .i64 time, .int .i64 num, c0, c1, .slice a bins.length cap, t0, t1, t2, t3, t4, t5, t6, k0, k1, k2, .slice a' ents.length cap']).extract 5 (5 + 24) = #[.int .i64 kind, .int .i64 ver, r0, r1, r2, r3, r4, r5, .int .i64 time, .int .i64 num, c0, c1, .slice a bins.length cap, t0, t1, t2, t3, t4, t5, t6, k0, k1, k2, .slice a' ents.length cap'] := by kernel_rfl
  have hMM : MsgAt L #[.int .i64 kind, .int .i64 ver, r0, r1, r2, r3, r4, r5, .int .i64 time, .int .i64 num, c0, c1, .slice a bins.length cap, t0, t1, t2, t3, t4, t5, t6, k0, k1, k2, .slice a' ents.length cap'] ⟨kind, ver, [r0, r1, r2, r3, r4, r5], time, num, [c0, c1], bins, [t0, t1, t2, t3, t4, t5, t6], [k0, k1, k2], ents⟩ a cap a' cap' := hM
  have hz5 := hMM.size
  have hone5 := MV.all_one hMM.ok hMM.size hMM.lies
  repeat (first | refine RQ ?_ | (refine WL_Q ?_; (first | refine QW_of (Qt_indexA rfl) ?_ | refine QW_of (Qt_buildA rfl) ?_ | refine QW_of (Qt_ldX rfl) ?_)) | (refine RE ?_; try intro _) | refine RC ?_ | refine WG 8 ?_)
  cases ha : ack
  rotate_left
  · subst ha
    have q3 : 0 ≤ room ∧ room ≤ 16 := by simpa [inB] using b3
    have er : IntKind.u64.wrap room = room := wU64 (by omega) (by omega)
    have v0 := u64_lo room; have v1 := u64_hi room
    have hp : GV.put ⟨life, chan, true, seq, room, ⟨kind, ver, [r0, r1, r2, r3, r4, r5], time, num, [c0, c1], bins, [t0, t1, t2, t3, t4, t5, t6], [k0, k1, k2], ents⟩⟩ = (H ++ enc (IntKind.u64.wrap room).toNat, 0) := by
      rw [er, hH]; simp [GV.put, b1, b2, b3']
    repeat (first | refine RQ ?_ | (refine WL_Q ?_; (first | refine QW_of (Qt_indexA rfl) ?_ | refine QW_of (Qt_buildA rfl) ?_ | refine QW_of (Qt_ldX rfl) ?_)) | (refine WL_op rfl ?_; (first | (refine OW_call rfl (hF := P_fn' (bs := H) ((own_by0 hOH).cons _) (by with_reducible assumption) (by with_reducible assumption) (by omega)) (hk := ?_); rintro _ _ ⟨p2, off2, cap2, cur2, rfl, rfl, ho2⟩))) | refine RC ?_ | refine WG 9 ?_ | refine WG 10 ?_)
    exact ⟨rfl, _, L, Res2 rfl (resV_tmp rfl) (resV_tmp rfl), (by repeat (first | exact List.Sublist.refl _ | apply List.Sublist.cons)), by rw [hp]; rfl, rfl⟩
  subst ha
  have lf : ∀ {bs : List UInt8} {n : Nat}, (GV.put ⟨life, chan, false, seq, room, ⟨kind, ver, [r0, r1, r2, r3, r4, r5], time, num, [c0, c1], bins, [t0, t1, t2, t3, t4, t5, t6], [k0, k1, k2], ents⟩⟩) = (bs, n) → (Value.tuple #[.string (bstr bs), .int .i64 (n : Nat)]) = .tuple #[.string (bstr (GV.put ⟨life, chan, false, seq, room, ⟨kind, ver, [r0, r1, r2, r3, r4, r5], time, num, [c0, c1], bins, [t0, t1, t2, t3, t4, t5, t6], [k0, k1, k2], ents⟩⟩).1), .int .i64 ((GV.put ⟨life, chan, false, seq, room, ⟨kind, ver, [r0, r1, r2, r3, r4, r5], time, num, [c0, c1], bins, [t0, t1, t2, t3, t4, t5, t6], [k0, k1, k2], ents⟩⟩).2 : Nat)] := fun e => by rw [e]
  cases b4 : inB kind 4
  · have d4 : (!(!true || inB kind 4)) = true := by rw [b4]; rfl
    repeat (first | refine RQ ?_ | (refine WL_Q ?_; (first | refine QW_of (Qt_indexA rfl) ?_ | refine QW_of (Qt_buildA rfl) ?_ | refine QW_of (Qt_ldX rfl) ?_)) | (refine WL_op rfl ?_; (first | refine OW_callP rfl (hF := right_fn) (hk := ?_))) | refine RC ?_ | refine WG 9 ?_ | refine WG 11 ?_ | refine WG 12 ?_)
    exact ⟨rfl, _, L, Res2 rfl (resV_tmp rfl) (resV_tmp rfl), (by repeat (first | exact List.Sublist.refl _ | apply List.Sublist.cons)), lf (by simp [GV.put, b1, b2, b4]), rfl⟩
  have d4 : (!(!true || inB kind 4)) = false := by rw [b4]; rfl
  have i5 : inB ((bins.length : Nat) : Int) 8 = !decide (8 < bins.length) := by
    by_cases h : 8 < bins.length <;> simp [inB, h] <;> omega
  have i6 : inB ((ents.length : Nat) : Int) 64 = !decide (64 < ents.length) := by
    by_cases h : 64 < ents.length <;> simp [inB, h] <;> omega
  cases b5 : (!(!(kind == 3) || inB ((bins.length : Nat) : Int) 8))
  rotate_left
  · have hm : GV.many ⟨life, chan, false, seq, room, ⟨kind, ver, [r0, r1, r2, r3, r4, r5], time, num, [c0, c1], bins, [t0, t1, t2, t3, t4, t5, t6], [k0, k1, k2], ents⟩⟩ = true := by
      rw [i5] at b5
      simp only [Bool.not_or, Bool.not_not] at b5
      unfold GV.many
      dsimp only
      rw [b5]; rfl
    repeat (first | refine RQ ?_ | (refine WL_Q ?_; (first | refine QW_of (Qt_indexA rfl) ?_ | refine QW_of (Qt_buildA rfl) ?_ | refine QW_of (Qt_ldX rfl) ?_)) | (refine WL_op rfl ?_; (first | refine OW_callP rfl (hF := right_fn) (hk := ?_))) | refine RC ?_ | refine WG 9 ?_ | refine WG 11 ?_ | refine WG 13 ?_ | refine WG 14 ?_ | refine WG 15 ?_)
    exact ⟨rfl, _, L, Res2 rfl (resV_tmp rfl) (resV_tmp rfl), (by repeat (first | exact List.Sublist.refl _ | apply List.Sublist.cons)), lf (by simp [GV.put, b1, b2, b4, hm]), rfl⟩
  cases b6 : (!(!(kind == 4) || inB ((ents.length : Nat) : Int) 64))
  rotate_left
  · have hm : GV.many ⟨life, chan, false, seq, room, ⟨kind, ver, [r0, r1, r2, r3, r4, r5], time, num, [c0, c1], bins, [t0, t1, t2, t3, t4, t5, t6], [k0, k1, k2], ents⟩⟩ = true := by
      rw [i6] at b6
      simp only [Bool.not_or, Bool.not_not] at b6
      unfold GV.many
      dsimp only
      rw [b6]; simp
    repeat (first | refine RQ ?_ | (refine WL_Q ?_; (first | refine QW_of (Qt_indexA rfl) ?_ | refine QW_of (Qt_buildA rfl) ?_ | refine QW_of (Qt_ldX rfl) ?_)) | (refine WL_op rfl ?_; (first | refine OW_callP rfl (hF := right_fn) (hk := ?_))) | refine RC ?_ | refine WG 9 ?_ | refine WG 11 ?_ | refine WG 13 ?_ | refine WG 14 ?_ | refine WG 15 ?_)
    exact ⟨rfl, _, L, Res2 rfl (resV_tmp rfl) (resV_tmp rfl), (by repeat (first | exact List.Sublist.refl _ | apply List.Sublist.cons)), lf (by simp [GV.put, b1, b2, b4, hm]), rfl⟩
  have hm : GV.many ⟨life, chan, false, seq, room, ⟨kind, ver, [r0, r1, r2, r3, r4, r5], time, num, [c0, c1], bins, [t0, t1, t2, t3, t4, t5, t6], [k0, k1, k2], ents⟩⟩ = false := by
    rw [i5] at b5
    rw [i6] at b6
    simp only [Bool.not_or, Bool.not_not] at b5 b6
    unfold GV.many
    dsimp only
    rw [b5, b6]; rfl
  have n12 : (⟨kind, ver, [r0, r1, r2, r3, r4, r5], time, num, [c0, c1], bins, [t0, t1, t2, t3, t4, t5, t6], [k0, k1, k2], ents⟩ : MV).bins.length ≤ 1000000 := by show bins.length ≤ _; omega
  have n70 : (⟨kind, ver, [r0, r1, r2, r3, r4, r5], time, num, [c0, c1], bins, [t0, t1, t2, t3, t4, t5, t6], [k0, k1, k2], ents⟩ : MV).ents.length ≤ 100000 := by show ents.length ≤ _; omega
  have hH9 : H.length ≤ 900000000 := by omega
  have hp : GV.put ⟨life, chan, false, seq, room, ⟨kind, ver, [r0, r1, r2, r3, r4, r5], time, num, [c0, c1], bins, [t0, t1, t2, t3, t4, t5, t6], [k0, k1, k2], ents⟩⟩ = (H ++ MV.enc ⟨kind, ver, [r0, r1, r2, r3, r4, r5], time, num, [c0, c1], bins, [t0, t1, t2, t3, t4, t5, t6], [k0, k1, k2], ents⟩, 0) := by
    rw [hH]; simp [GV.put, b1, b2, b4, hm]
  repeat (first | refine RQ ?_ | (refine WL_Q ?_; (first | refine QW_of (Qt_indexA rfl) ?_ | refine QW_of (Qt_buildA rfl) ?_ | refine QW_of (Qt_ldX rfl) ?_)) | (refine WL_op rfl ?_; (first | refine OW_callP rfl (hF := right_fn) (hk := ?_) | (refine OW_call rfl (hF := PMsg_at (by repeat (first | with_reducible exact hMM | apply MsgAt.cons)) (bs := H) ((own_by0 hOH).cons _) n12 n70 hH9) (hk := ?_); rintro _ _ ⟨p2, off2, cap2, cur2, rfl, rfl, ho2⟩))) | refine RC ?_ | refine WG 9 ?_ | refine WG 11 ?_ | refine WG 13 ?_ | refine WG 14 ?_ | refine WG 16 ?_)
  exact ⟨rfl, _, L, Res2 rfl (resV_tmp rfl) (resV_tmp rfl), (by repeat (first | exact List.Sublist.refl _ | apply List.Sublist.cons)), by rw [hp]; rfl, rfl⟩
end Go.Proofs.YtgimodceldoniaaGreatDoor
namespace Go.Proofs.YtgimodceldoniaaGreatDoor
open Go.RowKit
def prU (l : List UInt8) (most a : Nat) : PR Int := if uCode l a = 0 then (if uVal l a ≤ most then .ok (uVal l a : Nat) (uNext l a) else .bad 2 a) else .bad (uCode l a) a
def prT (l : List UInt8) (a : Nat) : PR Bool := if tCode l a = 0 then .ok ((bVal l a).toNat == 1) (a + 1) else .bad (tCode l a) a
def prN (l : List UInt8) (a : Nat) : PR Int := if uCode l a = 0 then .ok (uVal l a : Nat) (uNext l a) else .bad (uCode l a) a
def prTail (l : List UInt8) (life chan : Int) (ack : Bool) (seq : Int) (a : Nat) : PR GV :=
  if ack = true then (prU l 16 a).bind fun room b => .ok ⟨life, chan, true, seq, room, MV.none⟩ b else (prMsg l a).bind fun m b => .ok ⟨life, chan, false, seq, 0, m⟩ b
def prEnd {α : Type} (l : List UInt8) (x : α) (a : Nat) : PR α := if a < l.length then .bad 4 a else .ok x a
def prGram (l : List UInt8) : PR GV :=
  (prU l 65535 0).bind fun life a1 => (prU l 99 a1).bind fun chan a2 => (prT l a2).bind fun ack a3 => (prN l a3).bind fun seq a4 => (prTail l life chan ack seq a4).bind fun g a5 => prEnd l g a5
def GV.bytes (g : GV) : List UInt8 := if g.ack = true then g.head ++ enc g.room.toNat else g.head ++ g.m.enc
structure GV.Lim (g : GV) : Prop where
  l0 : 0 ≤ g.life
  l1 : g.life ≤ 65535
  c0 : 0 ≤ g.chan
  c1 : g.chan ≤ 99
  s0 : 0 ≤ g.seq
  s1 : g.seq < 18446744073709551616
  r0 : 0 ≤ g.room
  r1 : g.room ≤ 16
  yes : g.ack = true → g.m = MV.none
  no : g.ack = false → g.room = 0 ∧ g.m.Lim
theorem GV.Lim.ok {g : GV} (h : g.Lim) : g.Ok := by
  refine ⟨⟨?_, ?_⟩, ⟨?_, ?_⟩, h.s0, h.s1, ⟨?_, ?_⟩, ?_⟩
  any_goals (have := h.l0; have := h.l1; have := h.c0; have := h.c1; have := h.r0; have := h.r1; omega)
  cases ha : g.ack
  · exact (h.no ha).2.ok
  · rw [h.yes ha]; exact MV.none_ok
theorem prU_went {l : List UInt8} {most a b : Nat} {x : Int} (h : prU l most a = .ok x b) : Went l (0 ≤ x ∧ x ≤ most ∧ x < 18446744073709551616) (enc x.toNat) a b := by
  unfold prU at h
  split at h
  · rename_i hc
    split at h
    · rename_i hm
      cases h
      obtain ⟨h1, h2, h3⟩ := u_went hc
      have := val_lt ((l.drop a).take (cont l a + 1))
      exact ⟨⟨by omega, by omega, by show ((uVal l a : Nat) : Int) < _; unfold uVal; omega⟩, h1, h2, by rw [Int.toNat_natCast, h3]⟩
    · cases h
  · cases h
theorem prN_went {l : List UInt8} {a b : Nat} {x : Int} (h : prN l a = .ok x b) : Went l (0 ≤ x ∧ x < 18446744073709551616) (enc x.toNat) a b := by
  unfold prN at h
  split at h
  · rename_i hc
    cases h
    obtain ⟨h1, h2, h3⟩ := u_went hc
    have := val_lt ((l.drop a).take (cont l a + 1))
    exact ⟨⟨by omega, by show ((uVal l a : Nat) : Int) < _; unfold uVal; omega⟩, h1, h2, by rw [Int.toNat_natCast, h3]⟩
  · cases h
theorem prT_pr {l : List UInt8} {a : Nat} : Fk.pr l a .tt = (prT l a).bind fun x b => .ok (.bool x) b := by
  simp only [Fk.pr, prT]
  split <;> rfl
theorem prT_went {l : List UInt8} {a b : Nat} {x : Bool} (h : prT l a = .ok x b) : Went l True (encB x) a b := by
  have h2 : Fk.pr l a .tt = .ok (.bool x) b := by rw [prT_pr, h]; rfl
  have := pr_went h2
  exact ⟨trivial, this.2⟩
theorem prTail_went {l : List UInt8} {life chan seq : Int} {ack : Bool} {a b : Nat} {g : GV} (h : prTail l life chan ack seq a = .ok g b) (h1 : 0 ≤ life ∧ life ≤ 65535) (h2 : 0 ≤ chan ∧ chan ≤ 99) (h3 : 0 ≤ seq ∧ seq < 18446744073709551616) :
    ∃ t, g.Lim ∧ g.bytes = ((enc life.toNat ++ enc chan.toNat) ++ encB ack ++ enc seq.toNat) ++ t ∧ a ≤ b ∧ b ≤ l.length ∧ t = cut l a b := by
  unfold prTail at h
  split at h
  · rename_i ha
    obtain ⟨x, a', e1, e2⟩ := PR.bind_ok h
    cases e2
    obtain ⟨⟨q0, q1, q2⟩, w1, w2, w3⟩ := prU_went e1
    refine ⟨enc x.toNat, ⟨h1.1, h1.2, h2.1, h2.2, h3.1, h3.2, q0, by simpa using q1, fun _ => rfl, fun q => (by cases q)⟩, ?_, w1, w2, w3⟩
    simp [GV.bytes, GV.head, ha]
  · rename_i ha
    obtain ⟨m, a', e1, e2⟩ := PR.bind_ok h
    cases e2
    obtain ⟨q0, w1, w2, w3⟩ := prMsg_went e1
    refine ⟨m.enc, ⟨h1.1, h1.2, h2.1, h2.2, h3.1, h3.2, Int.le_refl 0, (by show (0 : Int) ≤ 16; decide), fun q => (by cases q), fun _ => ⟨rfl, q0⟩⟩, ?_, w1, w2, w3⟩
    have : ack = false := by simpa using ha
    simp [GV.bytes, GV.head, this]
theorem prGram_went {l : List UInt8} {b : Nat} {g : GV} (h : prGram l = .ok g b) : g.Lim ∧ b = l.length ∧ g.bytes = l := by
  unfold prGram at h
  obtain ⟨life, a1, e1, h⟩ := PR.bind_ok h
  obtain ⟨chan, a2, e2, h⟩ := PR.bind_ok h
  obtain ⟨ack, a3, e3, h⟩ := PR.bind_ok h
  obtain ⟨seq, a4, e4, h⟩ := PR.bind_ok h
  obtain ⟨g', a5, e5, h⟩ := PR.bind_ok h
  obtain ⟨⟨p0, p1, _⟩, l1, m1, c1⟩ := prU_went e1
  obtain ⟨⟨q0, q1, _⟩, l2, m2, c2⟩ := prU_went e2
  obtain ⟨_, l3, m3, c3⟩ := prT_went e3
  obtain ⟨⟨r0, r1⟩, l4, m4, c4⟩ := prN_went e4
  obtain ⟨t, hL, hb, l5, m5, c5⟩ := prTail_went e5 ⟨p0, by simpa using p1⟩ ⟨q0, by simpa using q1⟩ ⟨r0, r1⟩
  unfold prEnd at h
  split at h
  · cases h
  · cases h
    have hbl : b = l.length := by omega
    refine ⟨hL, hbl, ?_⟩
    rw [hb, c1, c2, c3, c4, c5, cut_app l1 l2, cut_app (by omega) l3, cut_app (by omega) l4, cut_app (by omega) l5, hbl]
    unfold cut; simp
end Go.Proofs.YtgimodceldoniaaGreatDoor
namespace Go.Proofs.YtgimodceldoniaaGreatDoor
open Go.RowKit
def idxL : Nat → List Value → List (Nat × Value)
  | _, [] => []
  | k, x :: r => (k, x) :: idxL (k + 1) r
theorem fill_idx {n : Nat} : ∀ (xs : List Value) (k : Nat) (pre z : List Value), pre.length = k * n → z.length = xs.length * n → (∀ x ∈ xs, x.cells.size = n) →
    FilledA n (pre ++ z).toArray (idxL k xs) (pre ++ xs.flatMap fun x => x.cells.toList).toArray
  | [], k, pre, z, _, hz, _ => by
    have : z = [] := List.length_eq_zero_iff.1 (by simpa using hz)
    subst this
    show _ = _
    simp
  | x :: r, k, pre, z, hp, hz, hx => by
    have h1 := hx x (by simp)
    have h2 : z.length = r.length * n + n := by rw [hz, List.length_cons, Nat.succ_mul]
    refine ⟨h1, by rw [List.size_toArray, List.length_append]; omega, ?_⟩
    have ih := fill_idx (n := n) r (k + 1) (pre ++ x.cells.toList) (z.drop n) (by rw [List.length_append, hp, Nat.succ_mul, Array.length_toList, h1]) (by rw [List.length_drop]; omega) (fun y hy => hx y (by simp [hy]))
    have e : putR (pre ++ z).toArray (k * n) x.cells = ((pre ++ x.cells.toList) ++ z.drop n).toArray := by
      unfold putR
      rw [← hp, h1]
      simp only [List.take_left, List.drop_append, List.append_assoc]
      rw [List.drop_eq_nil_of_le (by omega), List.nil_append]
      congr 4
      omega
    rw [e]
    simpa using ih
theorem OW_buildS {c : Cx} {o : Oper} {Kn : St → Prop} {K : Exit → St → Prop} {s : List (Nat × Value)} {D : List Deferred} {L : List (Nat × Obj)} {t E n m by_ d : Nat} {z : Array Value} {parts : Array (Nat × Operand)} {xs : List Value} [hu : TUnd c.P t (.slice E)] [hrow : TRow c.P E z n by_] (ho : o.op = .buildSlice t m parts) (_hv : evs s (parts.toList.map fun q => q.2) = some xs := by exact rfl) (hx : evp s parts.toList = some (idxL 0 xs) := by exact rfl) (hm : xs.length = m := by exact rfl)
    (hk : ∀ b, Kn ⟨(d, .slice (some ⟨b, 0, none⟩) m m) :: s, D, (b, .cells (xs.flatMap fun x => x.cells.toList).toArray E) :: L⟩) (hc0 : (xs.all fun x => x.cells.size == n) = true := by exact rfl) (hn0 : Nat.ble 1 (m * n) = true := by exact rfl) (hn1 : Nat.ble (m * n) 16777216 = true := by exact rfl) (hdst : o.dst = some d := by exact rfl) (hd : Nat.blt d c.N = true := by exact rfl) : OW c o Kn K ⟨s, D, L⟩ := fun a w ha => by
  have hc : ∀ x ∈ xs, x.cells.size = n := fun x hx => by simpa using List.all_eq_true.1 hc0 x hx
  refine ⟨fun _ _ => trivial, ?_⟩
  obtain ⟨i, zz, h1, h2, h3, h4, h5, h6⟩ := hrow.h
  have hn0 := Nat.le_of_ble_eq_true hn0
  have hn1 := Nat.le_of_ble_eq_true hn1
  have hb := run_buildSlice (P := c.P) w t E m (parts.map fun (i, x) => (i, a.eval x)) (xs.flatMap fun x => x.cells.toList).toArray i zz hu.h h1 h2 (by rw [h4]; omega) (by rw [h4]; omega) (by
    rw [h4, Array.toList_map, evp_map (fun x u hu => ha.ev hu) hx]
    generalize hAe : (Array.range (m * n)).map (zz.cells[· % zz.cells.size]!) = A
    have hA : A.size = m * n := by rw [← hAe]; simp
    have hf := fill_of_FilledA (fill_idx (n := n) xs 0 [] A.toList (by simp) (by rw [Array.length_toList, hA, hm]) hc)
    rw [List.nil_append, List.nil_append, Array.toArray_toList] at hf
    exact hf)
  have hr : (execOp a.eval o).run c.P w = .ok (.value (.slice (some ⟨w.heap.size, 0, none⟩) m m)) (w.alloc (.cells (xs.flatMap fun x => x.cells.toList).toArray E)) := by
    simp [execOp, ho, hb]
  rw [Oper.semAt_eq _ _ _ (by rw [ho]; intro cc h; cases h), hr]
  refine ⟨_, ?_, hk w.heap.size⟩
  rw [hdst]
  exact (ha.mem' (ha.mem.alloc _)).put (d := some d) hd _
end Go.Proofs.YtgimodceldoniaaGreatDoor
namespace Go.Proofs.YtgimodceldoniaaGreatDoor
open Go.RowKit
attribute [local irreducible] Fn WC WL WR OW Qt YieldFn QW FnP FnD FnE
theorem Qt_typeAssertN {c : Cx} {s : List (Nat × Value)} {L : List (Nat × Obj)} {o : Oper} {t u e : TypeId} {z : Value} [hu : TUnd c.P t (.pointer e)] [hz : TZero c.P t z] {x : Operand} (ho : o.op = .typeAssert x u t true) (hx : ev s x = some .nilIface := by exact rfl) : Qt c s L o (.tuple #[z, .bool false]) :=
  Qt_of_run (by simp [ho]) (fun ρ hρ w _ => by
    have h1 := hz.h w
    simp [execOp, ho, hρ x _ hx, Instr.typeAssert, run_underlying hu.h, h1])
abbrev gtO (rb a : Nat) : Obj := .cells #[.pointer (some ⟨rb, 0, none⟩), .int .i64 (a : Nat)] 124 (0, 0)
def GMem (gb rb : Nat) (l : List UInt8) (s : Nat × Nat) (Lp : List (Nat × Obj)) : Prop := Lp = [(rb, rdO l s.1), (gb, gtO rb s.2)] ∧ s.1 ≤ l.length
def stpAt : Fk → Nat × Nat → Nat
  | .kk, s => s.1
  | _, s => s.2
def getStp (l : List UInt8) (k : Fk) (s : Nat × Nat) : RW (Nat × Nat) := match Fk.pr l s.1 k with
  | .ok x b => .ok (b, stpAt k s) x
  | .bad c a => .bad c a
theorem getStp_ok {l : List UInt8} {k : Fk} {s s' : Nat × Nat} {x : Value} (h : getStp l k s = .ok s' x) : Fk.pr l s.1 k = .ok x s'.1 := by
  unfold getStp at h
  split at h
  · rename_i h1; cases h; exact h1
  · cases h
def getW (gb rb : Nat) (l : List UInt8) : Wy Tryz.prog where
  S := Nat × Nat
  t := 122
  v := .pointer (some ⟨gb, 0, none⟩)
  T0 := []
  mem := GMem gb rb l
  room := fun _ _ => True
  stp := fun k s _ => getStp l k s
  hr := fun s => (s.1, s.1)
  mst := fun b code s => if b then none else some (code, s.2)
  keeps := .inl rfl
  stp_ok := fun h _ => (pr_went (getStp_ok h)).1
  hr_room := fun h => h
  key_ok := fun {s x s' y} _ _ h hm => by
    unfold getStp at h
    simp only [Fk.pr] at h
    by_cases hc : uCode l s.1 = 0
    · rw [if_pos hc] at h
      simp only [RW.ok.injEq, Value.int.injEq, true_and] at h
      obtain ⟨h1, h2⟩ := h
      have hy : y ≤ 4294967295 := by
        rcases Decidable.em (y ≤ 4294967295) with h3 | h3
        · exact h3
        · simp only [decide_eq_false h3] at hm; cases hm
      refine ⟨?_, by omega⟩
      unfold getStp
      simp only [Fk.pr]
      rw [if_pos hc, if_pos (by omega)]
      simp only [RW.ok.injEq, Value.int.injEq, true_and]
      exact ⟨h1, h2⟩
    · rw [if_neg hc] at h; cases h
  key_bad := fun {s x c a} h => by
    unfold getStp at h ⊢
    simp only [Fk.pr] at h ⊢
    by_cases hc : uCode l s.1 = 0
    · rw [if_pos hc] at h; cases h
    · rw [if_neg hc] at h ⊢; exact h
  key_must := fun {s x s' y c a} h hm => by
    unfold getStp at h ⊢
    simp only [Fk.pr] at h ⊢
    by_cases hc : uCode l s.1 = 0
    · rw [if_pos hc] at h ⊢
      simp only [RW.ok.injEq, Value.int.injEq, true_and] at h
      obtain ⟨h1, h2⟩ := h
      have hy : ¬ y ≤ 4294967295 := fun h3 => by simp only [decide_eq_true h3, if_true] at hm; cases hm
      rw [if_neg (by omega)]
      simp only [decide_eq_false hy] at hm
      simp only [Bool.false_eq_true, if_false, Option.some.injEq, Prod.mk.injEq] at hm
      obtain ⟨rfl, rfl⟩ := hm
      subst h1
      rfl
    · rw [if_neg hc] at h; cases h
  stp_room := fun _ _ _ => trivial
  room_le := fun _ _ => trivial
theorem taken_int64 {x : Value} {L : List (Nat × Obj)} : Fn Tryz.prog 107 [x, .nilIface] L (fun v L' => v = x ∧ L' = L) := by
  refine Fn_enter Tryz.func107 rfl Tryz.ntmps107 rfl fun g => ?_
  repeat (first | refine RQ ?_ | (refine WL_Q ?_; (first | refine QW_of (Qt_typeAssertN rfl) ?_)) | refine RC ?_ | refine WC_region ?_)
  exact ⟨rfl, _, _, Res1 rfl (resV_tmp rfl), .refl _, rfl, rfl⟩
theorem taken_int64_no {x : Value} {p : Nat} {L : List (Nat × Obj)} : FnP Tryz.prog 107 [x, flt p] L (fun v L' => v = flt p ∧ L' = L) := by
  refine FnP_enter Tryz.func107 rfl Tryz.ntmps107 rfl fun g => ?_
  repeat (first | refine RQ ?_ | (refine WL_Q ?_; (first | refine QW_of (Qt_typeAssertN rfl) ?_)) | refine RC ?_ | refine WC_region ?_)
  refine WL_op rfl (OW_panic (σ := ⟨_, _, _⟩) rfl rfl ?_)
  exact ⟨_, rfl, rfl, rfl⟩
theorem taken_uint64 {x : Value} {L : List (Nat × Obj)} : Fn Tryz.prog 103 [x, .nilIface] L (fun v L' => v = x ∧ L' = L) := by
  refine Fn_enter Tryz.func103 rfl Tryz.ntmps103 rfl fun g => ?_
  repeat (first | refine RQ ?_ | (refine WL_Q ?_; (first | refine QW_of (Qt_typeAssertN rfl) ?_)) | refine RC ?_ | refine WC_region ?_)
  exact ⟨rfl, _, _, Res1 rfl (resV_tmp rfl), .refl _, rfl, rfl⟩
theorem taken_uint64_no {x : Value} {p : Nat} {L : List (Nat × Obj)} : FnP Tryz.prog 103 [x, flt p] L (fun v L' => v = flt p ∧ L' = L) := by
  refine FnP_enter Tryz.func103 rfl Tryz.ntmps103 rfl fun g => ?_
  repeat (first | refine RQ ?_ | (refine WL_Q ?_; (first | refine QW_of (Qt_typeAssertN rfl) ?_)) | refine RC ?_ | refine WC_region ?_)
  refine WL_op rfl (OW_panic (σ := ⟨_, _, _⟩) rfl rfl ?_)
  exact ⟨_, rfl, rfl, rfl⟩
theorem taken_bool {x : Value} {L : List (Nat × Obj)} : Fn Tryz.prog 106 [x, .nilIface] L (fun v L' => v = x ∧ L' = L) := by
  refine Fn_enter Tryz.func106 rfl Tryz.ntmps106 rfl fun g => ?_
  repeat (first | refine RQ ?_ | (refine WL_Q ?_; (first | refine QW_of (Qt_typeAssertN rfl) ?_)) | refine RC ?_ | refine WC_region ?_)
  exact ⟨rfl, _, _, Res1 rfl (resV_tmp rfl), .refl _, rfl, rfl⟩
theorem taken_bool_no {x : Value} {p : Nat} {L : List (Nat × Obj)} : FnP Tryz.prog 106 [x, flt p] L (fun v L' => v = flt p ∧ L' = L) := by
  refine FnP_enter Tryz.func106 rfl Tryz.ntmps106 rfl fun g => ?_
  repeat (first | refine RQ ?_ | (refine WL_Q ?_; (first | refine QW_of (Qt_typeAssertN rfl) ?_)) | refine RC ?_ | refine WC_region ?_)
  refine WL_op rfl (OW_panic (σ := ⟨_, _, _⟩) rfl rfl ?_)
  exact ⟨_, rfl, rfl, rfl⟩
theorem taken_byte {x : Value} {L : List (Nat × Obj)} : Fn Tryz.prog 104 [x, .nilIface] L (fun v L' => v = x ∧ L' = L) := by
  refine Fn_enter Tryz.func104 rfl Tryz.ntmps104 rfl fun g => ?_
  repeat (first | refine RQ ?_ | (refine WL_Q ?_; (first | refine QW_of (Qt_typeAssertN rfl) ?_)) | refine RC ?_ | refine WC_region ?_)
  exact ⟨rfl, _, _, Res1 rfl (resV_tmp rfl), .refl _, rfl, rfl⟩
theorem taken_byte_no {x : Value} {p : Nat} {L : List (Nat × Obj)} : FnP Tryz.prog 104 [x, flt p] L (fun v L' => v = flt p ∧ L' = L) := by
  refine FnP_enter Tryz.func104 rfl Tryz.ntmps104 rfl fun g => ?_
  repeat (first | refine RQ ?_ | (refine WL_Q ?_; (first | refine QW_of (Qt_typeAssertN rfl) ?_)) | refine RC ?_ | refine WC_region ?_)
  refine WL_op rfl (OW_panic (σ := ⟨_, _, _⟩) rfl rfl ?_)
  exact ⟨_, rfl, rfl, rfl⟩
section
variable {gb rb : Nat} {l : List UInt8} (hl9 : l.length ≤ 1000000000)
include hl9
set_option maxHeartbeats 1000000 in
theorem get_whole : Flat (getW gb rb l) 102 (.pointer (some ⟨gb, 0, none⟩)) [.ww] := by
  rintro (s : Nat × Nat) _ R i b cs E fr off vs ⟨rfl, ha⟩ hT _ hR hv hl hfr
  obtain ⟨x0, us, rfl, hx, hv'⟩ := hv.split
  obtain rfl := hv'.nil
  have hc := hl.cons.1
  have hz : off < cs.size := (Array.getElem?_eq_some_iff.1 hc).1
  refine FnE_enter Tryz.func102 rfl Tryz.ntmps102 rfl fun g => ?_
  repeat (first | refine RQ ?_ | (refine WL_Q ?_; (first | refine QW_of (Qt_typeAssertN rfl) ?_)) | (refine RE ?_; try intro _) | refine RC ?_ | refine WC_region ?_)
  refine WL_op rfl (OW_call rfl (hF := I_fn ha hl9 _) (hk := ?_))
  rintro _ _ (⟨h0, rfl, rfl⟩ | ⟨h0, p, rfl, rfl⟩)
  · have hs : getStp l .ww s = .ok (uNext l s.1, s.2) (.int .i64 (whole (uVal l s.1))) := by unfold getStp; simp only [Fk.pr]; rw [if_pos h0]; rfl
    repeat (first | refine RQ ?_ | (refine WL_Q ?_; (first | refine QW_of (Qt_typeAssertN rfl) ?_)) | (refine RE ?_; try intro _) | refine RC ?_ | refine WC_region ?_)
    refine WL_op rfl (OW_callP rfl (hF := taken_int64) (hk := ?_))
    repeat (first | refine RQ ?_ | (refine WL_Q ?_; (first | refine QW_of (Qt_typeAssertN rfl) ?_)) | (refine RE ?_; try intro _) | refine RC ?_ | refine WC_region ?_)
    have hX : ((rb, rdO l (uNext l s.1)) :: (gb, gtO rb s.2) :: R)[i + 2]? = some (b, .cells cs E fr) := hR
    refine WL_op rfl (OW_store1F (v := .int .i64 (whole (uVal l s.1))) rfl _ hX hz (hfr.sub 0 1 (Nat.le_refl _)) (WL_nil ?_))
    refine ⟨.tuple #[], _, Res0 rfl, .refl _, rfl, (uNext l s.1, s.2), [.int .i64 (whole (uVal l s.1))], [(rb, rdO l (uNext l s.1)), (gb, gtO rb s.2)], cs.setIfInBounds off (.int .i64 (whole (uVal l s.1))), (getW gb rb l).stps1_ok hs, rfl, ⟨rfl, ?_⟩, Upd.one _ hz, fun q hq => by cases hq⟩
    exact (pr_went (getStp_ok hs)).2.2.1
  · have hs : getStp l .ww s = .bad (uCode l s.1) s.1 := by unfold getStp; simp only [Fk.pr]; rw [if_neg h0]
    repeat (first | refine RQ ?_ | (refine WL_Q ?_; (first | refine QW_of (Qt_typeAssertN rfl) ?_)) | (refine RE ?_; try intro _) | refine RC ?_ | refine WC_region ?_)
    refine WL_op rfl (OW_pan rfl taken_int64_no fun v L' h => ?_)
    obtain ⟨rfl, rfl⟩ := h
    exact ⟨_, rfl, uCode l s.1, s.1, p, s, [(rb, rdO l s.1), (gb, gtO rb s.2)], cs, (getW gb rb l).stps1_bad hs, rfl, by rw [set_same hR]; rfl, ⟨rfl, ha⟩, rfl⟩
set_option maxHeartbeats 1000000 in
theorem get_number : Flat (getW gb rb l) 99 (.pointer (some ⟨gb, 0, none⟩)) [.nn] := by
  rintro (s : Nat × Nat) _ R i b cs E fr off vs ⟨rfl, ha⟩ hT _ hR hv hl hfr
  obtain ⟨x0, us, rfl, hx, hv'⟩ := hv.split
  obtain rfl := hv'.nil
  have hc := hl.cons.1
  have hz : off < cs.size := (Array.getElem?_eq_some_iff.1 hc).1
  refine FnE_enter Tryz.func99 rfl Tryz.ntmps99 rfl fun g => ?_
  repeat (first | refine RQ ?_ | (refine WL_Q ?_; (first | refine QW_of (Qt_typeAssertN rfl) ?_)) | (refine RE ?_; try intro _) | refine RC ?_ | refine WC_region ?_)
  refine WL_op rfl (OW_call rfl (hF := U_fn ha hl9 _) (hk := ?_))
  rintro _ _ (⟨h0, rfl, rfl⟩ | ⟨h0, p, rfl, rfl⟩)
  · have hs : getStp l .nn s = .ok (uNext l s.1, s.2) (.int .u64 (uVal l s.1)) := by unfold getStp; simp only [Fk.pr]; rw [if_pos h0]; rfl
    repeat (first | refine RQ ?_ | (refine WL_Q ?_; (first | refine QW_of (Qt_typeAssertN rfl) ?_)) | (refine RE ?_; try intro _) | refine RC ?_ | refine WC_region ?_)
    refine WL_op rfl (OW_callP rfl (hF := taken_uint64) (hk := ?_))
    repeat (first | refine RQ ?_ | (refine WL_Q ?_; (first | refine QW_of (Qt_typeAssertN rfl) ?_)) | (refine RE ?_; try intro _) | refine RC ?_ | refine WC_region ?_)
    have hX : ((rb, rdO l (uNext l s.1)) :: (gb, gtO rb s.2) :: R)[i + 2]? = some (b, .cells cs E fr) := hR
    refine WL_op rfl (OW_store1F (v := .int .u64 (uVal l s.1)) rfl _ hX hz (hfr.sub 0 1 (Nat.le_refl _)) (WL_nil ?_))
    refine ⟨.tuple #[], _, Res0 rfl, .refl _, rfl, (uNext l s.1, s.2), [.int .u64 (uVal l s.1)], [(rb, rdO l (uNext l s.1)), (gb, gtO rb s.2)], cs.setIfInBounds off (.int .u64 (uVal l s.1)), (getW gb rb l).stps1_ok hs, rfl, ⟨rfl, ?_⟩, Upd.one _ hz, fun q hq => by cases hq⟩
    exact (pr_went (getStp_ok hs)).2.2.1
  · have hs : getStp l .nn s = .bad (uCode l s.1) s.1 := by unfold getStp; simp only [Fk.pr]; rw [if_neg h0]
    repeat (first | refine RQ ?_ | (refine WL_Q ?_; (first | refine QW_of (Qt_typeAssertN rfl) ?_)) | (refine RE ?_; try intro _) | refine RC ?_ | refine WC_region ?_)
    refine WL_op rfl (OW_pan rfl taken_uint64_no fun v L' h => ?_)
    obtain ⟨rfl, rfl⟩ := h
    exact ⟨_, rfl, uCode l s.1, s.1, p, s, [(rb, rdO l s.1), (gb, gtO rb s.2)], cs, (getW gb rb l).stps1_bad hs, rfl, by rw [set_same hR]; rfl, ⟨rfl, ha⟩, rfl⟩
set_option maxHeartbeats 1000000 in
theorem get_truth : Flat (getW gb rb l) 101 (.pointer (some ⟨gb, 0, none⟩)) [.tt] := by
  rintro (s : Nat × Nat) _ R i b cs E fr off vs ⟨rfl, ha⟩ hT _ hR hv hl hfr
  obtain ⟨x0, us, rfl, hx, hv'⟩ := hv.split
  obtain rfl := hv'.nil
  have hc := hl.cons.1
  have hz : off < cs.size := (Array.getElem?_eq_some_iff.1 hc).1
  refine FnE_enter Tryz.func101 rfl Tryz.ntmps101 rfl fun g => ?_
  repeat (first | refine RQ ?_ | (refine WL_Q ?_; (first | refine QW_of (Qt_typeAssertN rfl) ?_)) | (refine RE ?_; try intro _) | refine RC ?_ | refine WC_region ?_)
  refine WL_op rfl (OW_call rfl (hF := Bool_fn ha hl9 _) (hk := ?_))
  rintro _ _ (⟨h0, rfl, rfl⟩ | ⟨h0, p, rfl, rfl⟩)
  · have hs : getStp l .tt s = .ok (s.1 + 1, s.2) (.bool ((bVal l s.1).toNat == 1)) := by unfold getStp; simp only [Fk.pr]; rw [if_pos h0]; rfl
    repeat (first | refine RQ ?_ | (refine WL_Q ?_; (first | refine QW_of (Qt_typeAssertN rfl) ?_)) | (refine RE ?_; try intro _) | refine RC ?_ | refine WC_region ?_)
    refine WL_op rfl (OW_callP rfl (hF := taken_bool) (hk := ?_))
    repeat (first | refine RQ ?_ | (refine WL_Q ?_; (first | refine QW_of (Qt_typeAssertN rfl) ?_)) | (refine RE ?_; try intro _) | refine RC ?_ | refine WC_region ?_)
    have hX : ((rb, rdO l (s.1 + 1)) :: (gb, gtO rb s.2) :: R)[i + 2]? = some (b, .cells cs E fr) := hR
    refine WL_op rfl (OW_store1F (v := .bool ((bVal l s.1).toNat == 1)) rfl _ hX hz (hfr.sub 0 1 (Nat.le_refl _)) (WL_nil ?_))
    refine ⟨.tuple #[], _, Res0 rfl, .refl _, rfl, (s.1 + 1, s.2), [.bool ((bVal l s.1).toNat == 1)], [(rb, rdO l (s.1 + 1)), (gb, gtO rb s.2)], cs.setIfInBounds off (.bool ((bVal l s.1).toNat == 1)), (getW gb rb l).stps1_ok hs, rfl, ⟨rfl, ?_⟩, Upd.one _ hz, fun q hq => by cases hq⟩
    exact (pr_went (getStp_ok hs)).2.2.1
  · have hs : getStp l .tt s = .bad (tCode l s.1) s.1 := by unfold getStp; simp only [Fk.pr]; rw [if_neg h0]
    repeat (first | refine RQ ?_ | (refine WL_Q ?_; (first | refine QW_of (Qt_typeAssertN rfl) ?_)) | (refine RE ?_; try intro _) | refine RC ?_ | refine WC_region ?_)
    refine WL_op rfl (OW_pan rfl taken_bool_no fun v L' h => ?_)
    obtain ⟨rfl, rfl⟩ := h
    exact ⟨_, rfl, tCode l s.1, s.1, p, s, [(rb, rdO l s.1), (gb, gtO rb s.2)], cs, (getW gb rb l).stps1_bad hs, rfl, by rw [set_same hR]; rfl, ⟨rfl, ha⟩, rfl⟩
set_option maxHeartbeats 1000000 in
theorem get_one : Flat (getW gb rb l) 100 (.pointer (some ⟨gb, 0, none⟩)) [.bb] := by
  rintro (s : Nat × Nat) _ R i b cs E fr off vs ⟨rfl, ha⟩ hT _ hR hv hl hfr
  obtain ⟨x0, us, rfl, hx, hv'⟩ := hv.split
  obtain rfl := hv'.nil
  have hc := hl.cons.1
  have hz : off < cs.size := (Array.getElem?_eq_some_iff.1 hc).1
  refine FnE_enter Tryz.func100 rfl Tryz.ntmps100 rfl fun g => ?_
  repeat (first | refine RQ ?_ | (refine WL_Q ?_; (first | refine QW_of (Qt_typeAssertN rfl) ?_)) | (refine RE ?_; try intro _) | refine RC ?_ | refine WC_region ?_)
  refine WL_op rfl (OW_call rfl (hF := Byte_fn ha hl9 _) (hk := ?_))
  rintro _ _ (⟨h0, rfl, rfl⟩ | ⟨h0, p, rfl, rfl⟩)
  · have hs : getStp l .bb s = .ok (s.1 + 1, s.2) (bV (bVal l s.1)) := by unfold getStp; simp only [Fk.pr]; rw [if_pos h0]; rfl
    repeat (first | refine RQ ?_ | (refine WL_Q ?_; (first | refine QW_of (Qt_typeAssertN rfl) ?_)) | (refine RE ?_; try intro _) | refine RC ?_ | refine WC_region ?_)
    refine WL_op rfl (OW_callP rfl (hF := taken_byte) (hk := ?_))
    repeat (first | refine RQ ?_ | (refine WL_Q ?_; (first | refine QW_of (Qt_typeAssertN rfl) ?_)) | (refine RE ?_; try intro _) | refine RC ?_ | refine WC_region ?_)
    have hX : ((rb, rdO l (s.1 + 1)) :: (gb, gtO rb s.2) :: R)[i + 2]? = some (b, .cells cs E fr) := hR
    refine WL_op rfl (OW_store1F (v := bV (bVal l s.1)) rfl _ hX hz (hfr.sub 0 1 (Nat.le_refl _)) (WL_nil ?_))
    refine ⟨.tuple #[], _, Res0 rfl, .refl _, rfl, (s.1 + 1, s.2), [bV (bVal l s.1)], [(rb, rdO l (s.1 + 1)), (gb, gtO rb s.2)], cs.setIfInBounds off (bV (bVal l s.1)), (getW gb rb l).stps1_ok hs, rfl, ⟨rfl, ?_⟩, Upd.one _ hz, fun q hq => by cases hq⟩
    exact (pr_went (getStp_ok hs)).2.2.1
  · have hs : getStp l .bb s = .bad (bCode l s.1) s.1 := by unfold getStp; simp only [Fk.pr]; rw [if_neg h0]
    repeat (first | refine RQ ?_ | (refine WL_Q ?_; (first | refine QW_of (Qt_typeAssertN rfl) ?_)) | (refine RE ?_; try intro _) | refine RC ?_ | refine WC_region ?_)
    refine WL_op rfl (OW_pan rfl taken_byte_no fun v L' h => ?_)
    obtain ⟨rfl, rfl⟩ := h
    exact ⟨_, rfl, bCode l s.1, s.1, p, s, [(rb, rdO l s.1), (gb, gtO rb s.2)], cs, (getW gb rb l).stps1_bad hs, rfl, by rw [set_same hR]; rfl, ⟨rfl, ha⟩, rfl⟩
omit hl9 in
theorem get_here (s : Nat × Nat) (Lp R : List (Nat × Obj)) (h : GMem gb rb l s Lp) : FnE Tryz.prog 97 [.pointer (some ⟨gb, 0, none⟩)] (Lp ++ R) (fun v L' => v = .tuple #[] ∧ ∃ Lp', L' = Lp' ++ R ∧ GMem gb rb l (s.1, s.1) Lp') (fun _ _ => False) := by
  obtain ⟨rfl, ha⟩ := h
  refine FnE.ofFn ?_
  refine Fn_enter Tryz.func97 rfl Tryz.ntmps97 rfl fun g => ?_
  repeat (first | refine RQ ?_ | (refine WL_Q ?_; (first | refine QW_of (Qt_typeAssertN rfl) ?_)) | (refine RE ?_; try intro _) | (refine WL_op rfl ?_; (first | refine OW_S (fun F => place_rd F) ?_)) | refine RC ?_ | refine WC_region ?_)
  exact ⟨rfl, _, _, Res0 rfl, .refl _, rfl, _, rfl, rfl, ha⟩
omit hl9 in
theorem get_must (s : Nat × Nat) (Lp R : List (Nat × Obj)) (b : Bool) (code : Nat) (h : GMem gb rb l s Lp) : FnE Tryz.prog 98 [.pointer (some ⟨gb, 0, none⟩), .bool b, .int .i64 code] (Lp ++ R) (fun v L' => v = .tuple #[] ∧ L' = Lp ++ R ∧ (if b then none else some (code, s.2)) = (none : Option (Nat × Nat))) (fun u L' => ∃ c a p, (if b then none else some (code, s.2)) = some (c, a) ∧ u = flt p ∧ L' = (p, fltO c a) :: (Lp ++ R)) := by
  obtain ⟨rfl, ha⟩ := h
  refine FnE_enter Tryz.func98 rfl Tryz.ntmps98 rfl fun g => ?_
  cases b
  · repeat (first | refine RQ ?_ | (refine WL_Q ?_; (first | refine QW_of (Qt_typeAssertN rfl) ?_)) | (refine RE ?_; try intro _) | refine RC ?_ | refine WC_region ?_)
    refine WL_op rfl (OW_panic (σ := ⟨_, _, _⟩) rfl rfl ?_)
    exact ⟨_, rfl, code, s.2, _, rfl, rfl, rfl⟩
  · repeat (first | refine RQ ?_ | (refine WL_Q ?_; (first | refine QW_of (Qt_typeAssertN rfl) ?_)) | (refine RE ?_; try intro _) | refine RC ?_ | refine WC_region ?_)
    exact ⟨_, _, Res0 rfl, .refl _, rfl, rfl, rfl⟩
def getM : Meth (getW gb rb l) where
  fw := 102
  fn := 99
  ft := 101
  fo := 100
  fh := 97
  fm := 98
  mw := by kernel_rfl
  mn := by kernel_rfl
  mt := by kernel_rfl
  mo := by kernel_rfl
  mh := by kernel_rfl
  mm := by kernel_rfl
  iw := inferInstance
  jn := inferInstance
  it := inferInstance
  io := inferInstance
  ih := inferInstance
  im := inferInstance
  cw := get_whole hl9
  cn := get_number hl9
  ct := get_truth hl9
  co := get_one hl9
  ch := get_here
  cm := fun s Lp R b code h => get_must s Lp R b code h
end
end Go.Proofs.YtgimodceldoniaaGreatDoor
