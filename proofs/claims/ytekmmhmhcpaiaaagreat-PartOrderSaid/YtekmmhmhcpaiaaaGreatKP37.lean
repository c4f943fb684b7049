/-
  A part of what the last of these texts needs; by itself it proves no statement.
-/
import Derived.ProofKit
import Derived.Deep.Slices
import Derived.OpenShut
import Derived.Test.YtekmmhmhcpaiaaaGreatKP36
namespace Go.Proofs.YtekmmhmhcpaiaaaGreat
open Go.RowKit
structure RowOk (act : List Int) (last : Int) (row : List (Int × Int)) : Prop where
  ne : row ≠ []
  z : ∀ q, row[0]? = some q → q.1 = 0
  up : ∀ (k : Nat) q r, row[k]? = some q → row[k + 1]? = some r → q.1 < r.1 ∧ q.2 ≠ r.2
  le : ∀ q ∈ row, q.1 ≤ last
  own : ∀ q, row.getLast? = some q → q.2 ∈ act
structure TbOk (t : TbV) : Prop where
  wk : t.wk ≤ 3
  few : t.cmds.length ≤ 64
  last : 0 ≤ lastF t ∧ lastF t ≤ 1099511627776
  ne : t.act ≠ []
  rise : t.act.Pairwise (· < ·)
  one : ∀ w ∈ t.act, 1 ≤ w ∧ w ≤ t.wk
  eight : t.spans.length = 8
  rows : ∀ row ∈ t.spans, RowOk t.act (lastF t) row
  short : ∀ row ∈ t.spans, row.length ≤ t.cmds.length + 1
  rl : t.repl.length = t.nodes.length
  rshort : ∀ row ∈ t.repl, row.length ≤ t.cmds.length
  rops : ∀ (k : Nat) row o, t.repl[k]? = some row → t.nodes[k]? = some o → ∀ c ∈ row, c.op.ok = true ∧ clsF c.op.1 = clsF o.1
  rup : ∀ row ∈ t.repl, row.Pairwise (fun a b => a.at_ < b.at_) ∧ ∀ c ∈ row, c.at_ ≤ lastF t
  nds : t.nodes.length ≤ 14
theorem pw_bound : ∀ {l : List Int} {a b : Int}, l.Pairwise (· < ·) → (∀ w ∈ l, a ≤ w ∧ w ≤ b) → (l.length : Int) ≤ if a ≤ b + 1 then b + 1 - a else 0
  | [], a, b, _, _ => by simp only [List.length_nil]; split <;> omega
  | x :: l, a, b, h, h1 => by
    obtain ⟨h2, h3⟩ := List.pairwise_cons.1 h
    have hx := h1 x (.head _)
    have ih := pw_bound (l := l) (a := x + 1) (b := b) h3 fun w hw => ⟨h2 w hw, (h1 w (.tail _ hw)).2⟩
    rw [List.length_cons]
    split at ih <;> split <;> omega
theorem TbOk.few3 {t : TbV} (h : TbOk t) : t.act.length ≤ 3 := by
  have hb := pw_bound h.rise h.one
  have hw := h.wk
  split at hb <;> omega
theorem TbOk.riseLe {t : TbV} (h : TbOk t) : Rise t.act := h.rise.imp fun h => Int.le_of_lt h
theorem tryF_at {t : TbV} {c : CmV} {floor : Int} (h : tryF t c floor = 0) : t.cmds.length < 64 ∧ floor < c.at_ ∧ lastF t < c.at_ ∧ c.at_ ≤ 1099511627776 := by
  unfold tryF at h
  by_cases h1 : 64 ≤ t.cmds.length
  · rw [if_pos h1] at h; cases h
  rw [if_neg h1] at h
  by_cases h2 : ¬ (0 ≤ c.kind ∧ c.kind ≤ 3)
  · rw [if_pos h2] at h; cases h
  rw [if_neg h2] at h
  by_cases h3 : ¬ (max floor (lastF t) < c.at_ ∧ c.at_ ≤ 1099511627776)
  · rw [if_pos h3] at h; cases h
  omega
theorem tryF_kinds {t : TbV} {c : CmV} {floor : Int} (h : tryF t c floor = 0) :
    (c.kind = 0 ∧ risF (-1) c.bins = true ∧ c.to ∈ t.act ∧ ∀ b ∈ c.bins, hasF t.spans b ≠ c.to) ∨ (c.kind = 1 ∧ 1 ≤ c.to ∧ c.to ≤ t.wk ∧ c.to ∉ t.act) ∨ (c.kind = 2 ∧ c.to ∈ t.act ∧ 1 < t.act.length)
    ∨ (c.kind = 3 ∧ 0 ≤ c.node ∧ c.node ≤ (t.nodes.length : Int) - 1 ∧ c.op.ok = true ∧ clsF c.op.1 = clsF ((t.nodes[c.node.toNat]?).getD (0, 0, 0, 0)).1) := by
  unfold tryF at h
  by_cases h1 : 64 ≤ t.cmds.length
  · rw [if_pos h1] at h; cases h
  rw [if_neg h1] at h
  by_cases h2 : ¬ (0 ≤ c.kind ∧ c.kind ≤ 3)
  · rw [if_pos h2] at h; cases h
  rw [if_neg h2] at h
  by_cases h3 : ¬ (max floor (lastF t) < c.at_ ∧ c.at_ ≤ 1099511627776)
  · rw [if_pos h3] at h; cases h
  rw [if_neg h3] at h
  by_cases k0 : c.kind = 0
  · rw [if_pos k0] at h
    by_cases h4 : risF (-1) c.bins = false
    · rw [if_pos h4] at h; cases h
    rw [if_neg h4] at h
    by_cases h5 : c.to ∉ t.act
    · rw [if_pos h5] at h; cases h
    rw [if_neg h5] at h
    by_cases h6 : c.bins.any (fun b => hasF t.spans b == c.to) = true
    · rw [if_pos h6] at h; cases h
    refine .inl ⟨k0, by simpa using h4, Decidable.not_not.1 h5, fun b hb e => h6 ?_⟩
    rw [List.any_eq_true]
    exact ⟨b, hb, by simpa using e⟩
  rw [if_neg k0] at h
  by_cases k1 : c.kind = 1
  · rw [if_pos k1] at h
    by_cases h4 : ¬ (1 ≤ c.to ∧ c.to ≤ t.wk)
    · rw [if_pos h4] at h; cases h
    rw [if_neg h4] at h
    by_cases h5 : c.to ∈ t.act
    · rw [if_pos h5] at h; cases h
    exact .inr (.inl ⟨k1, by omega, by omega, h5⟩)
  rw [if_neg k1] at h
  by_cases k2 : c.kind = 2
  · rw [if_pos k2] at h
    by_cases h4 : c.to ∉ t.act
    · rw [if_pos h4] at h; cases h
    rw [if_neg h4] at h
    by_cases h5 : t.act.length ≤ 1
    · rw [if_pos h5] at h; cases h
    exact .inr (.inr (.inl ⟨k2, Decidable.not_not.1 h4, by omega⟩))
  rw [if_neg k2] at h
  by_cases h4 : ¬ ((0 ≤ c.node ∧ c.node ≤ (t.nodes.length : Int) - 1) ∧ (0 ≤ c.mode ∧ c.mode ≤ 2))
  · rw [if_pos h4] at h; cases h
  rw [if_neg h4] at h
  by_cases h5 : c.op.ok = false
  · rw [if_pos h5] at h; cases h
  rw [if_neg h5] at h
  by_cases h6 : clsF c.op.1 ≠ clsF ((t.nodes[c.node.toNat]?).getD (0, 0, 0, 0)).1
  · rw [if_pos h6] at h; cases h
  exact .inr (.inr (.inr ⟨by omega, by omega, by omega, by simpa using h5, Decidable.not_not.1 h6⟩))
theorem risF_all : ∀ {la : Int} {l : List Int}, risF la l = true → l.Pairwise (· < ·) ∧ ∀ b ∈ l, la < b ∧ b < 8
  | la, [], _ => ⟨.nil, by simp⟩
  | la, b :: r, h => by
    rw [risF] at h
    by_cases h1 : b ≤ la ∨ 8 ≤ b
    · rw [if_pos h1] at h; cases h
    rw [if_neg h1] at h
    obtain ⟨h2, h3⟩ := risF_all h
    refine ⟨List.pairwise_cons.2 ⟨fun x hx => (h3 x hx).1, h2⟩, fun x hx => ?_⟩
    rcases List.mem_cons.1 hx with rfl | hx
    · omega
    · have := h3 x hx; omega
theorem giveK_at {at_ : Int} {to : List Int} (ht : to ≠ []) : ∀ {k : Nat} {bins : List Int} {sp : List (List (Int × Int))}, bins.Pairwise (· < ·) → (∀ b ∈ bins, 0 ≤ b ∧ b < sp.length) →
    (giveK at_ to k bins sp).length = sp.length ∧ ∀ (b : Nat) row, sp[b]? = some row → ((b : Int) ∈ bins ∧ ∃ w ∈ to, (giveK at_ to k bins sp)[b]? = some (row ++ [(at_, w)])) ∨ ((b : Int) ∉ bins ∧ (giveK at_ to k bins sp)[b]? = some row)
  | k, [], sp, _, _ => ⟨rfl, fun b row h => .inr ⟨by simp, h⟩⟩
  | k, x :: r, sp, hp, hb => by
    obtain ⟨hp1, hp2⟩ := List.pairwise_cons.1 hp
    have hx := hb x (.head _)
    obtain ⟨ih1, ih2⟩ := giveK_at ht (k := k + 1) (bins := r) (sp := sp.set x.toNat (((sp[x.toNat]?).getD []) ++ [(at_, (to[k % to.length]?).getD 0)])) hp2 fun b hb' => by
      rw [List.length_set]; exact hb b (.tail _ hb')
    rw [giveK]
    rw [List.length_set] at ih1
    refine ⟨ih1, fun b row hrow => ?_⟩
    have hw : (to[k % to.length]?).getD 0 ∈ to := by
      have hl : k % to.length < to.length := Nat.mod_lt _ (List.length_pos_iff.2 ht)
      rw [List.getElem?_eq_getElem hl]
      exact List.getElem_mem hl
    by_cases e : x = (b : Int)
    · subst e
      have e2 : (sp.set (b : Int).toNat (((sp[(b : Int).toNat]?).getD []) ++ [(at_, (to[k % to.length]?).getD 0)]))[b]? = some (row ++ [(at_, (to[k % to.length]?).getD 0)]) := by
        rw [Int.toNat_natCast, List.getElem?_set_self (List.getElem?_eq_some_iff.1 hrow).1, hrow]; rfl
      rcases ih2 b _ e2 with ⟨h1, _⟩ | ⟨_, h2⟩
      · exact absurd (hp1 _ h1) (by omega)
      · exact .inl ⟨.head _, _, hw, h2⟩
    · have e2 : (sp.set x.toNat (((sp[x.toNat]?).getD []) ++ [(at_, (to[k % to.length]?).getD 0)]))[b]? = some row := by
        rw [List.getElem?_set_ne (by omega), hrow]
      rcases ih2 b _ e2 with ⟨h1, h2⟩ | ⟨h1, h2⟩
      · exact .inl ⟨.tail _ h1, h2⟩
      · refine .inr ⟨fun h => ?_, h2⟩
        rcases List.mem_cons.1 h with h | h
        · exact e h.symm
        · exact h1 h
theorem giveF_at {at_ : Int} {to bins : List Int} {sp : List (List (Int × Int))} (ht : to ≠ []) (hp : bins.Pairwise (· < ·)) (hb : ∀ b ∈ bins, 0 ≤ b ∧ b < sp.length) :
    (giveF sp at_ bins to).length = sp.length ∧ ∀ (b : Nat) row, sp[b]? = some row → ((b : Int) ∈ bins ∧ ∃ w ∈ to, (giveF sp at_ bins to)[b]? = some (row ++ [(at_, w)])) ∨ ((b : Int) ∉ bins ∧ (giveF sp at_ bins to)[b]? = some row) := by
  unfold giveF
  rw [if_neg ht]
  exact giveK_at ht hp hb
theorem ofF_mem {sp : List (List (Int × Int))} {w b : Int} : b ∈ ofF sp w ↔ (0 ≤ b ∧ b < 8) ∧ hasF sp b = w := by
  unfold ofF
  rw [List.mem_filter, List.mem_map]
  constructor
  · rintro ⟨⟨k, hk, rfl⟩, h⟩
    have := List.mem_range.1 hk
    exact ⟨⟨by omega, by omega⟩, by simpa using h⟩
  · rintro ⟨⟨h1, h2⟩, h⟩
    exact ⟨⟨b.toNat, List.mem_range.2 (by omega), by omega⟩, by simpa using h⟩
theorem ofF_rise (sp : List (List (Int × Int))) (w : Int) : (ofF sp w).Pairwise (· < ·) := by
  unfold ofF
  refine List.Pairwise.filter _ ?_
  rw [List.pairwise_map]
  exact List.pairwise_lt_range.imp fun h => by omega
theorem addF_cmds (t : TbV) (c : CmV) : (addF t c).cmds = t.cmds ++ [c] := by
  unfold addF
  split
  · rfl
  split
  · rfl
  split <;> rfl
theorem addF_last (t : TbV) (c : CmV) : lastF (addF t c) = c.at_ := by
  unfold lastF
  rw [addF_cmds]
  simp
theorem RowOk.keep {act act' : List Int} {last last' : Int} {row : List (Int × Int)} (h : RowOk act last row) (hl : last ≤ last') (ha : ∀ q, row.getLast? = some q → q.2 ∈ act') : RowOk act' last' row :=
  ⟨h.ne, h.z, h.up, fun q hq => Int.le_trans (h.le q hq) hl, ha⟩
theorem RowOk.push {act act' : List Int} {last now w : Int} {row : List (Int × Int)} (h : RowOk act last row) (hl : last < now) (hw : w ∈ act') (hne : ∀ q, row.getLast? = some q → q.2 ≠ w) : RowOk act' now (row ++ [(now, w)]) where
  ne := by simp
  z := fun q hq => by
    have h0 : 0 < row.length := List.length_pos_iff.2 h.ne
    rw [List.getElem?_append_left h0] at hq
    exact h.z q hq
  up := fun k q r hq hr => by
    have hk : k + 1 < (row ++ [(now, w)]).length := (List.getElem?_eq_some_iff.1 hr).1
    rw [List.length_append] at hk
    simp only [List.length_cons, List.length_nil] at hk
    rw [List.getElem?_append_left (by omega)] at hq
    by_cases e : k + 1 < row.length
    · rw [List.getElem?_append_left e] at hr
      exact h.up k q r hq hr
    · have ek : k + 1 = row.length := by omega
      rw [ek, List.getElem?_append_right (by omega), Nat.sub_self] at hr
      cases hr
      have := h.le q (List.mem_of_getElem? hq)
      refine ⟨by show q.1 < now; omega, hne q ?_⟩
      rw [List.getLast?_eq_getElem?, ← ek, Nat.add_sub_cancel]
      exact hq
  le := fun q hq => by
    rcases List.mem_append.1 hq with hq | hq
    · have := h.le q hq; omega
    · obtain rfl := List.mem_singleton.1 hq
      exact Int.le_refl _
  own := fun q hq => by
    rw [List.getLast?_concat] at hq
    cases hq
    exact hw
theorem hasF_last {sp : List (List (Int × Int))} {b : Nat} {row : List (Int × Int)} (h : sp[b]? = some row) {q : Int × Int} (hq : row.getLast? = some q) : hasF sp b = q.2 := by
  unfold hasF
  rw [Int.toNat_natCast, h]
  show ((row.getLast?).getD (0, 0)).2 = q.2
  rw [hq]
  rfl
theorem give_ok {sp : List (List (Int × Int))} {bins to act act' : List Int} {last now : Int} (h8 : sp.length = 8) (hr : ∀ row ∈ sp, RowOk act last row) (hl : last < now) (ht : to ≠ []) (hp : bins.Pairwise (· < ·)) (hb : ∀ b ∈ bins, 0 ≤ b ∧ b < 8) (hw : ∀ w ∈ to, w ∈ act' ∧ ∀ b ∈ bins, hasF sp b ≠ w)
    (hk : ∀ (b : Nat) row q, (b : Int) ∉ bins → sp[b]? = some row → row.getLast? = some q → q.2 ∈ act') : (giveF sp now bins to).length = 8 ∧ (∀ row ∈ giveF sp now bins to, RowOk act' now row) ∧ ∀ n : Nat, (∀ row ∈ sp, row.length ≤ n) → ∀ row ∈ giveF sp now bins to, row.length ≤ n + 1 := by
  obtain ⟨g1, g2⟩ := giveF_at (at_ := now) ht hp (sp := sp) fun b h => by have := hb b h; omega
  have hall : ∀ row' ∈ giveF sp now bins to, ∃ (b : Nat) (row : List (Int × Int)), sp[b]? = some row ∧ (((b : Int) ∈ bins ∧ ∃ w ∈ to, row' = row ++ [(now, w)]) ∨ ((b : Int) ∉ bins ∧ row' = row)) := fun row' h => by
    obtain ⟨b, hb'⟩ := List.mem_iff_getElem?.1 h
    have hlt := (List.getElem?_eq_some_iff.1 hb').1
    obtain ⟨row, hrow⟩ : ∃ row, sp[b]? = some row := ⟨_, List.getElem?_eq_getElem (by omega)⟩
    refine ⟨b, row, hrow, ?_⟩
    rcases g2 b row hrow with ⟨q1, w, q2, q3⟩ | ⟨q1, q3⟩
    · rw [hb'] at q3
      exact .inl ⟨q1, w, q2, Option.some.inj q3⟩
    · rw [hb'] at q3
      exact .inr ⟨q1, Option.some.inj q3⟩
  refine ⟨by omega, fun row' h => ?_, fun n hn row' h => ?_⟩
  · obtain ⟨b, row, hrow, h1⟩ := hall row' h
    have hro := hr row (List.mem_of_getElem? hrow)
    rcases h1 with ⟨q1, w, q2, rfl⟩ | ⟨q1, rfl⟩
    · refine hro.push hl (hw w q2).1 fun q hq e => (hw w q2).2 b q1 ?_
      rw [hasF_last hrow hq, e]
    · exact hro.keep (Int.le_of_lt hl) fun q hq => hk b _ q q1 hrow hq
  · obtain ⟨b, row, hrow, h1⟩ := hall row' h
    have := hn row (List.mem_of_getElem? hrow)
    rcases h1 with ⟨q1, w, q2, rfl⟩ | ⟨q1, rfl⟩
    · rw [List.length_append]; simp only [List.length_cons, List.length_nil]; omega
    · omega
theorem insF_lt {x : Int} : ∀ {l : List Int}, l.Pairwise (· < ·) → x ∉ l → (insF x l).Pairwise (· < ·)
  | [], _, _ => List.pairwise_singleton _ _
  | y :: r, h, hn => by
    unfold insF
    obtain ⟨h1, h2⟩ := List.pairwise_cons.1 h
    rw [List.mem_cons, not_or] at hn
    split
    · rename_i hx
      exact List.pairwise_cons.2 ⟨fun z hz => by
        rcases List.mem_cons.1 hz with rfl | hz
        · omega
        · have := h1 z hz; omega, h⟩
    · rename_i hx
      refine List.pairwise_cons.2 ⟨fun z hz => ?_, insF_lt h2 hn.2⟩
      rcases List.mem_cons.1 ((insF_perm x r).mem_iff.1 hz) with rfl | hz
      · omega
      · exact h1 z hz
theorem insF_mem {x z : Int} {l : List Int} : z ∈ insF x l ↔ z = x ∨ z ∈ l := by rw [(insF_perm x l).mem_iff, List.mem_cons]
set_option maxHeartbeats 4000000 in
theorem addF_ok {t : TbV} {c : CmV} {floor : Int} (h : TbOk t) (ha : tryF t c floor = 0) : TbOk (addF t c) := by
  obtain ⟨a1, a2, a3, a4⟩ := tryF_at ha
  have hcm := addF_cmds t c
  have hla := addF_last t c
  have hlen : (addF t c).cmds.length = t.cmds.length + 1 := by rw [hcm]; simp
  have hl0 := h.last
  have hreplKeep : ∀ row ∈ t.repl, row.Pairwise (fun a b => a.at_ < b.at_) ∧ ∀ x ∈ row, x.at_ ≤ c.at_ := fun row hr => ⟨(h.rup row hr).1, fun x hx => by have := (h.rup row hr).2 x hx; omega⟩
  have hrowKeep : ∀ row ∈ t.spans, RowOk t.act c.at_ row := fun row hr => (h.rows row hr).keep (by omega) (h.rows row hr).own
  rcases tryF_kinds ha with ⟨k, b1, b2, b3⟩ | ⟨k, b1, b2, b3⟩ | ⟨k, b1, b2⟩ | ⟨k, b1, b2, b3, b4⟩
  · have e : addF t c = { t with cmds := t.cmds ++ [c], spans := giveF t.spans c.at_ c.bins [c.to] } := by unfold addF; rw [if_pos k]
    obtain ⟨r1, r2⟩ := risF_all b1
    obtain ⟨g1, g2, g3⟩ := give_ok (act' := t.act) (to := [c.to]) h.eight h.rows a3 (by simp) r1 (fun b hb => by have := r2 b hb; omega) (fun w hw => by
      obtain rfl := List.mem_singleton.1 hw
      exact ⟨b2, b3⟩) (fun b row q _ hr hq => (h.rows row (List.mem_of_getElem? hr)).own q hq)
    rw [e] at hla hlen ⊢
    exact ⟨h.wk, by rw [hlen]; omega, by rw [hla]; omega, h.ne, h.rise, h.one, g1, by rw [hla]; exact g2, by rw [hlen]; exact g3 _ h.short, h.rl, fun row hr => by rw [hlen]; have := h.rshort row hr; omega, h.rops, by rw [hla]; exact hreplKeep, h.nds⟩
  · have e : addF t c = { t with cmds := t.cmds ++ [c], act := insF c.to t.act } := by unfold addF; rw [if_neg (by omega), if_pos k]
    rw [e] at hla hlen ⊢
    refine ⟨h.wk, by rw [hlen]; omega, by rw [hla]; omega, fun hn => ?_, insF_lt h.rise b3, fun w hw => ?_, h.eight, fun row hr => ?_, fun row hr => by rw [hlen]; have := h.short row hr; omega, h.rl, fun row hr => by rw [hlen]; have := h.rshort row hr; omega, h.rops, by rw [hla]; exact hreplKeep, h.nds⟩
    · have : c.to ∈ insF c.to t.act := insF_mem.2 (.inl rfl)
      have hn' : insF c.to t.act = [] := hn
      rw [hn'] at this
      cases this
    · rcases insF_mem.1 hw with rfl | hw
      · exact ⟨b1, b2⟩
      · exact h.one w hw
    · rw [hla]
      exact (hrowKeep row hr).keep (Int.le_refl _) fun q hq => insF_mem.2 (.inr ((h.rows row hr).own q hq))
  · have e : addF t c = { t with cmds := t.cmds ++ [c], act := t.act.filter (fun w => !(w == c.to)), spans := giveF t.spans c.at_ (ofF t.spans c.to) (t.act.filter (fun w => !(w == c.to))) } := by unfold addF; rw [if_neg (by omega), if_neg (by omega), if_pos k]
    have hm : ∀ w, w ∈ t.act.filter (fun w => !(w == c.to)) ↔ w ∈ t.act ∧ w ≠ c.to := fun w => by rw [List.mem_filter]; simp
    have hne : t.act.filter (fun w => !(w == c.to)) ≠ [] := fun hn => by
      have hr := h.rise
      have hx : ∀ w ∈ t.act, w = c.to := fun w hw => by
        apply Decidable.byContradiction
        intro hwc
        have := (hm w).2 ⟨hw, hwc⟩
        rw [hn] at this
        cases this
      match hact : t.act, b2 with
      | x :: y :: r, _ =>
        rw [hact] at hx hr
        have q1 := hx x (.head _)
        have q2 := hx y (.tail _ (.head _))
        have q3 := (List.pairwise_cons.1 hr).1 y (.head _)
        omega
      | [], h => simp at h
      | [x], h => simp at h
    obtain ⟨g1, g2, g3⟩ := give_ok (bins := ofF t.spans c.to) (act' := t.act.filter (fun w => !(w == c.to))) (to := t.act.filter (fun w => !(w == c.to))) h.eight h.rows a3 hne (ofF_rise _ _) (fun b hb => (ofF_mem.1 hb).1) (fun w hw => ⟨hw, fun b hb e => ((hm w).1 hw).2 (by rw [← e, (ofF_mem.1 hb).2])⟩) (fun b row q hn hr hq => by
      refine (hm _).2 ⟨(h.rows row (List.mem_of_getElem? hr)).own q hq, fun e => hn (ofF_mem.2 ⟨⟨by omega, ?_⟩, ?_⟩)⟩
      · have := (List.getElem?_eq_some_iff.1 hr).1
        have := h.eight
        omega
      · rw [hasF_last hr hq, e])
    rw [e] at hla hlen ⊢
    exact ⟨h.wk, by rw [hlen]; omega, by rw [hla]; omega, hne, h.rise.filter _, fun w hw => h.one w ((hm w).1 hw).1, g1, by rw [hla]; exact g2, by rw [hlen]; exact g3 _ h.short, h.rl, fun row hr => by rw [hlen]; have := h.rshort row hr; omega, h.rops, by rw [hla]; exact hreplKeep, h.nds⟩
  · have e : addF t c = { t with cmds := t.cmds ++ [c], repl := t.repl.set c.node.toNat (((t.repl[c.node.toNat]?).getD []) ++ [c]) } := by unfold addF; rw [if_neg (by omega), if_neg (by omega), if_neg (by omega)]
    obtain ⟨old, hold⟩ : ∃ old, t.repl[c.node.toNat]? = some old := ⟨_, List.getElem?_eq_getElem (by rw [h.rl]; omega)⟩
    have hmem := List.mem_of_getElem? hold
    rw [hold] at e
    rw [e] at hla hlen ⊢
    refine ⟨h.wk, by rw [hlen]; omega, by rw [hla]; omega, h.ne, h.rise, h.one, h.eight, fun row hr => by rw [hla]; exact hrowKeep row hr, fun row hr => by rw [hlen]; have := h.short row hr; omega, ?_, fun row hr => ?_, fun k' row o hr ho x hx => ?_, fun row hr => ?_, h.nds⟩
    · show (t.repl.set _ _).length = _
      rw [List.length_set]; exact h.rl
    · rw [hlen]
      rcases List.mem_or_eq_of_mem_set hr with hr | rfl
      · have := h.rshort row hr; omega
      · have := h.rshort old hmem
        rw [List.length_append]; simp only [Option.getD_some, List.length_cons, List.length_nil]; omega
    · by_cases ek : c.node.toNat = k'
      · subst ek
        have hr' : (t.repl.set c.node.toNat (old ++ [c]))[c.node.toNat]? = some row := hr
        rw [List.getElem?_set_self (List.getElem?_eq_some_iff.1 hold).1] at hr'
        cases hr'
        rcases List.mem_append.1 hx with hx | hx
        · exact h.rops _ old o hold ho x hx
        · obtain rfl := List.mem_singleton.1 hx
          have ho' : t.nodes[x.node.toNat]? = some o := ho
          rw [ho'] at b4
          exact ⟨b3, b4⟩
      · have hr' : (t.repl.set c.node.toNat (old ++ [c]))[k']? = some row := hr
        rw [List.getElem?_set_ne ek] at hr'
        exact h.rops k' row o hr' ho x hx
    · rw [hla]
      rcases List.mem_or_eq_of_mem_set hr with hr | rfl
      · exact hreplKeep row hr
      · refine ⟨List.pairwise_append.2 ⟨(h.rup old hmem).1, List.pairwise_singleton _ _, fun a ha' b hb => ?_⟩, fun x hx => ?_⟩
        · obtain rfl := List.mem_singleton.1 hb
          have := (h.rup old hmem).2 a ha'
          omega
        · rcases List.mem_append.1 hx with hx | hx
          · exact (hreplKeep old hmem).2 x hx
          · obtain rfl := List.mem_singleton.1 hx
            exact Int.le_refl _
end Go.Proofs.YtekmmhmhcpaiaaaGreat
namespace Go.Proofs.YtekmmhmhcpaiaaaGreat
open Go.RowKit
theorem turnsL_mem {to : List Int} (h : to ≠ []) {n : Nat} : ∀ w ∈ turnsL to n, w ∈ to := fun w hw => by
  unfold turnsL at hw
  obtain ⟨k, _, rfl⟩ := List.mem_map.1 hw
  have hl : k % to.length < to.length := Nat.mod_lt _ (List.length_pos_iff.2 h)
  rw [List.getElem?_eq_getElem hl]
  exact List.getElem_mem hl
theorem newT_ok {p : PlV} {c : CfV} (hp : (planF p).2 = 0) (h : rightF c = true) : TbOk (newT p c) := by
  have hr := of_decide_eq_true h
  obtain ⟨n, hn⟩ : ∃ n : Nat, c.2.1.toNat = n := ⟨_, rfl⟩
  have hact : (newT p c).act = [1, 2, 3].take n := by show ([1, 2, 3].take c.2.1.toNat : List Int) = _; rw [hn]
  have hc : n = 1 ∨ n = 2 ∨ n = 3 := by omega
  have hne : (newT p c).act ≠ [] := by rw [hact]; rcases hc with rfl | rfl | rfl <;> simp
  have hsp : ∀ row ∈ (newT p c).spans, ∃ w ∈ (newT p c).act, row = [(0, w)] := fun row hr => by
    obtain ⟨w, hw, rfl⟩ := List.mem_map.1 hr
    exact ⟨w, turnsL_mem hne w hw, rfl⟩
  refine ⟨hr.1.2, Nat.zero_le _, ⟨Int.le_refl _, by show (0 : Int) ≤ 1099511627776; decide⟩, hne, ?_, fun w hw => ?_, by simp [newT, turnsL_len], fun row h1 => ?_, fun row h1 => ?_, by simp [newT], fun row h1 => ?_, fun k row o h1 h2 x hx => ?_, fun row h1 => ?_, by show (opsL p).length ≤ 14; rw [opsL, List.length_map]; exact nodesL_len (planF_ok hp)⟩
  · rw [hact]; rcases hc with rfl | rfl | rfl <;> simp
  · rw [hact] at hw
    have hw2 : w = 1 ∨ (w = 2 ∧ 2 ≤ n) ∨ (w = 3 ∧ 3 ≤ n) := by
      rcases hc with rfl | rfl | rfl <;> simp at hw <;> omega
    have : (newT p c).wk = c.1 := rfl
    omega
  · obtain ⟨w, hw, rfl⟩ := hsp row h1
    refine ⟨by simp, fun q hq => ?_, fun k q r hq hr => ?_, fun q hq => ?_, fun q hq => ?_⟩
    · cases hq; rfl
    · simp at hr
    · obtain rfl := List.mem_singleton.1 hq; exact Int.le_refl _
    · cases hq; exact hw
  · obtain ⟨w, hw, rfl⟩ := hsp row h1
    exact Nat.le_refl _
  · obtain rfl := (List.mem_replicate.1 (show row ∈ List.replicate _ [] from h1)).2
    exact Nat.zero_le _
  · obtain rfl := (List.mem_replicate.1 (List.mem_of_getElem? (show (List.replicate (opsL p).length ([] : List CmV))[k]? = some row from h1))).2
    cases hx
  · obtain rfl := (List.mem_replicate.1 (show row ∈ List.replicate _ [] from h1)).2
    exact ⟨.nil, fun x hx => by cases hx⟩
end Go.Proofs.YtekmmhmhcpaiaaaGreat
namespace Go.Proofs.YtekmmhmhcpaiaaaGreat
open Go.ChangeShapes Go.WideShapes Go.ChangeAt Go.RowKit
theorem ownOf : ownKnob Tryz.prog.godebug = none := by kernel_rfl
theorem laidOf : laidOutB Tryz.prog = true := by kernel_rfl
def allL (W : World) : List (Nat × Obj) := W.heap.toList.zipIdx.map fun p => (p.2, p.1)
theorem allL_get {W : World} {b : Nat} {o : Obj} (h : W.heap[b]? = some o) : (allL W)[b]? = some (b, o) := by
  simp [allL, h]
theorem allL_mem {W : World} {p : Nat × Obj} : p ∈ allL W → W.heap[p.1]? = some p.2 := fun h => by
  simp only [allL, List.mem_map] at h
  obtain ⟨⟨o, b⟩, h1, rfl⟩ := h
  have := List.mem_zipIdx_iff_getElem?.1 h1
  simpa using this
theorem allL_mem_of {W : World} {b : Nat} {o : Obj} (h : W.heap[b]? = some o) : (b, o) ∈ allL W := List.mem_of_getElem? (allL_get h)
theorem mem_allL (W : World) : Mem W (allL W) W where
  os := rfl
  tape := rfl
  output := rfl
  size := Nat.le_refl _
  nodup := by
    have : (allL W).map Prod.fst = List.range W.heap.size := by
      simp only [allL, List.map_map]
      apply List.ext_getElem?
      intro i
      simp only [List.getElem?_map, List.getElem?_zipIdx, Array.getElem?_toList]
      by_cases h : i < W.heap.size
      · simp [h]
      · simp [h]
    rw [this]; exact List.nodup_range
  has := fun _ h => allL_mem h
theorem below_of_mem {W W' : World} (h : Mem W (allL W) W') : Below W.heap.size W W' where
  os := h.os
  tape := h.tape
  output := h.output
  size := h.size
  block := fun k hk => by
    have h1 : W.heap[k]? = some W.heap[k] := Array.getElem?_eq_getElem hk
    rw [h1]
    exact h.has (k, W.heap[k]) (allL_mem_of h1)
theorem trodAll_stays {H : Type} {enc : TypeId × Value → H} {P : Program} (hl : laidOutB P = true) {W W' : World} (hb : Below W.heap.size W W') : ∀ {ts : List TypeId} {vs : List Value} {ds : List (DataW H)} {ps : List MemPlace},
    (∀ t ∈ ts, P.readableRec t = true ∧ t < P.types.size) → DataW.TrodAll enc P W 0 (fun _ => true) true ts vs ds ps → (∀ x ∈ ps, x.block < W.heap.size) → DataW.TrodAll enc P W' 0 (fun b => decide (b < W.heap.size)) true ts vs ds ps
  | [], _, _, _, _, h, _ => by obtain ⟨rfl, rfl, rfl⟩ := trodAll_nil h; exact trodAll_mk0
  | t :: ts, _, _, _, ht, h, hp => by
    obtain ⟨v, vs', d, ds', p, q, rfl, rfl, rfl, h1, h2⟩ := trodAll_cons h
    have h3 := ht t (by simp)
    exact ⟨p, q, Below.trod hl h3.1 h3.2 h1 hb (fun x hx => hp x (by simp [hx])), trodAll_stays hl hb (fun t' h' => ht t' (by simp [h'])) h2 (fun x hx => hp x (by simp [hx])), rfl⟩
theorem post_law {H : Type} {enc : TypeId × Value → H} {P : Program} {f : Func} {s : ChangeSpec} {W W' : World} {args : Array Value} {ds gs : List (DataW H)} {before : List MemPlace} {tb : TypeId} (hl : laidOutB P = true)
    (hts : (f.params.toList.all fun t => P.readableRec t && decide (t < P.types.size)) = true) (hv : s.vars = []) (hr : f.resultTypes = #[tb]) (hb : P.underlying tb = some .bool)
    (hfn : s.fn H (ds ++ gs) = { results := [.lit (.bool true)], args := ds }) (hW : DataW.Whole enc P f.params.toList s.vars false W args.toList ds gs before) (hbel : Below W.heap.size W W') :
    s.post enc P f false true false false W args (.bool true) W' := by
  have hlt := hW.lt
  have hW' := hW
  obtain ⟨p, q, hA, hV, rfl, _, _⟩ := hW
  rw [hv] at hV
  obtain ⟨rfl, rfl⟩ := trodVars_none hV
  have hts' : ∀ t ∈ f.params.toList, P.readableRec t = true ∧ t < P.types.size := fun t ht => by
    have := List.all_eq_true.1 hts t ht
    simpa using this
  refine ⟨ds, [], p ++ [], [], p, [], hW', ?_, ?_, ?_, hbel.frame _, fun h => by cases h⟩
  · rw [hfn, hr]
    exact trodAll_mk1 (shut_bool hb true)
  · rw [hfn]
    exact trodAll_stays hl hbel hts' hA (fun x hx => by simpa using hlt x (by simp [hx]))
  · rw [hfn, hv]; rfl
theorem u8_bounds {x : Int} (h : (Lit.int .u8 x).wf = true) : 0 ≤ x ∧ x < 256 := by
  have h1 := h
  simp only [Lit.wf, Bool.and_eq_true, decide_eq_true_eq] at h1
  have e1 : IntKind.u8.min = 0 := rfl
  have e2 : IntKind.u8.max = 255 := rfl
  omega
theorem u16_bounds {x : Int} (h : (Lit.int .u16 x).wf = true) : 0 ≤ x ∧ x < 65536 := by
  have h1 := h
  simp only [Lit.wf, Bool.and_eq_true, decide_eq_true_eq] at h1
  have e1 : IntKind.u16.min = 0 := rfl
  have e2 : IntKind.u16.max = 65535 := rfl
  omega
theorem i64_bounds {x : Int} (h : (Lit.int .i64 x).wf = true) : -9223372036854775808 ≤ x ∧ x < 9223372036854775808 := by
  have h1 := h
  simp only [Lit.wf, Bool.and_eq_true, decide_eq_true_eq] at h1
  have e1 : IntKind.i64.min = -9223372036854775808 := rfl
  have e2 : IntKind.i64.max = 9223372036854775807 := rfl
  omega
theorem lifted {C : Checked} {os : Os} {H : Type} {enc : TypeId × Value → H} {f : FuncId} {fn : Func} {s : ChangeSpec} {tb : TypeId} (own : ownKnob C.prog.godebug = none) (started : os.Started) (noInit : C.prog.inits.idxOf? f = none) (hfn : C.prog.funcs[f]? = some fn)
    (witness : ∃ (w : World) (tape : Tape) (i : Input), w.os = os ∧ (w.forCall tape i).Shaped C.prog ∧ i.vars = [] ∧ Input.okWide C.prog (w.forCall tape i) .any w.heap.size f i ∧ s.pre6 enc C.prog fn [] false (w.forCall tape i).memory i.args ∧ ({} : Assume).holds C.prog (lone (Frame.enter C.prog f i.args .normal) [] (w.forCall tape i)))
    (hl : laidOutB C.prog = true) (hts : (fn.params.toList.all fun t => C.prog.readableRec t && decide (t < C.prog.types.size)) = true) (hv : s.vars = []) (hr : fn.resultTypes = #[tb]) (hb : C.prog.underlying tb = some .bool)
    (hspec : ∀ ds : List (DataW H), ds.length = fn.params.size → s.fn H ds = { results := [.lit (.bool true)], args := ds })
    (h : ∀ (W : World) (base : Nat) (args : Array Value) (ds : List (DataW H)) (ps : List MemPlace), (∀ (j : Nat) t v, fn.params[j]? = some t → args[j]? = some v → Value.okWide C.prog W .any base t v) →
      DataW.TrodAll enc C.prog W 0 (fun _ => true) true fn.params.toList args.toList ds ps → W.noneFrozen ps → Fn C.prog f args.toList (allL W) fun v L' => v = .bool true ∧ L' = allL W) :
    ReturnsInHanded {} C os f .any (s.pre6 enc C.prog fn [] false) (s.post enc C.prog fn false true false false) := by
  refine returnsInHanded_of_change (C := C) own started noInit hfn witness ?_
  intro W base args ds gs before hval hW _ _
  have hW' := hW
  obtain ⟨p, q, hA, hV, rfl, hfz, _⟩ := hW
  rw [hv] at hV
  obtain ⟨rfl, rfl⟩ := trodVars_none hV
  have hlen : ∀ {ts : List TypeId} {vs : List Value} {ds : List (DataW H)} {ps : List MemPlace}, DataW.TrodAll enc C.prog W 0 (fun _ => true) true ts vs ds ps → ds.length = ts.length := by
    intro ts
    induction ts with
    | nil => intro vs ds ps h; obtain ⟨_, rfl, _⟩ := trodAll_nil h; rfl
    | cons t ts ih => intro vs ds ps h; obtain ⟨v, vs', d, ds', a, b, rfl, rfl, rfl, _, h2⟩ := trodAll_cons h; simp [ih h2]
  have hds := hspec ds (by rw [hlen hA]; simp)
  refine ((h W base args ds p hval hA (by simpa using hfz)) W W (mem_allL W)).mono fun e W' ⟨v, L', h1, h2, h3, h4⟩ => ?_
  subst h3; subst h4
  exact ⟨_, h1, post_law hl hts hv hr hb (by simpa using hds) hW' (below_of_mem h2)⟩
end Go.Proofs.YtekmmhmhcpaiaaaGreat
namespace Go.Proofs.YtekmmhmhcpaiaaaGreat
open Go.ChangeShapes Go.WideShapes Go.ChangeAt Go.RowKit Go.Deep
structure Rd (α : Type) where
  n : Nat
  lie : List (Nat × Obj) → α → (Nat → Option Value) → Prop
  mono : ∀ {L a g g'}, (∀ k v, g k = some v → g' k = some v) → lie L a g → lie L a g'
def intR (k : IntKind) : Rd Int where
  n := 1
  lie := fun _ x g => g 0 = some (.int k x) ∧ (Lit.int k x).wf = true
  mono := fun h h1 => ⟨h _ _ h1.1, h1.2⟩
def pairR {α β : Type} (r : Rd α) (s : Rd β) : Rd (α × β) where
  n := r.n + s.n
  lie := fun L x g => r.lie L x.1 g ∧ s.lie L x.2 (fun k => g (r.n + k))
  mono := fun h h1 => ⟨r.mono h h1.1, s.mono (fun _ _ h2 => h _ _ h2) h1.2⟩
def SlLie {α : Type} (r : Rd α) (L : List (Nat × Obj)) (a : Option Addr) (xs : List α) : Prop :=
  xs = [] ∨ ∃ (b off : Nat) (cs : Array Value) (E : TypeId) (fr : Nat × Nat) (i : Nat), a = some ⟨b, off, none⟩ ∧ L[i]? = some (b, Obj.cells cs E fr) ∧ ∀ j x, xs[j]? = some x → r.lie L x (fun k => cs[off + j * r.n + k]?)
def sliceR {α : Type} (r : Rd α) : Rd (List α) where
  n := 1
  lie := fun L xs g => ∃ a cap, g 0 = some (.slice a xs.length cap) ∧ xs.length ≤ cap ∧ cap ≤ maxLen ∧ SlLie r L a xs
  mono := fun h ⟨a, cap, h1, h2⟩ => ⟨a, cap, h _ _ h1, h2⟩
def Sound {α : Type} (P : Program) (t : TypeId) (r : Rd α) : Prop :=
  P.cellsOf t = r.n ∧ ∀ {H : Type} {enc : TypeId × Value → H} {W : World} {fuel : Nat} {cs : List Value} {x : DataW H × List MemPlace}, DataW.trod enc P W 0 (fun _ => true) true fuel t cs = some x → ∃ a, r.lie (allL W) a (fun k => cs[k]?)
variable {P : Program} {t : TypeId}
theorem sound_int {k : IntKind} (ht : P.underlying t = some (.int k)) (hc : P.cellsOf t = 1) : Sound P t (intR k) := ⟨hc, fun h => by
  obtain ⟨n, rfl, _, hw⟩ := DataW.trod_int ht h
  exact ⟨n, rfl, hw⟩⟩
theorem cut_get {cs : List Value} {o n k : Nat} {v : Value} (h : ((cs.drop o).take n)[k]? = some v) : cs[o + k]? = some v := by
  rw [List.getElem?_take] at h
  split at h
  · rwa [List.getElem?_drop] at h
  · cases h
theorem choose_list {α : Type} {n : Nat} {p : Nat → α → Prop} (h : ∀ i, i < n → ∃ x, p i x) : ∃ xs : List α, xs.length = n ∧ ∀ i x, xs[i]? = some x → p i x := by
  induction n with
  | zero => exact ⟨[], rfl, by simp⟩
  | succ n ih =>
    obtain ⟨xs, h1, h2⟩ := ih fun i hi => h i (by omega)
    obtain ⟨x, hx⟩ := h n (by omega)
    refine ⟨xs ++ [x], by simp [h1], fun i y hy => ?_⟩
    by_cases hi : i < n
    · rw [List.getElem?_append_left (by omega)] at hy; exact h2 i y hy
    · rw [List.getElem?_append_right (by omega)] at hy
      have : i = n := by
        have := (List.getElem?_eq_some_iff.1 hy).1
        simp at this; omega
      subst this
      rw [h1, Nat.sub_self] at hy
      simp at hy; subst hy; exact hx
theorem cells_get {W : World} {a : Addr} {n k : Nat} {cs : List Value} (h : W.cells? 0 a n = some cs) (hk : k < n) : ∃ v, cs[k]? = some v ∧ W.cell? (a.add k) = some v := by
  obtain ⟨_, hl, hat⟩ := World.cells?_some h
  exact ⟨cs[k]'(by omega), List.getElem?_eq_getElem (by omega), by rw [hat k hk, List.getElem?_eq_getElem (by omega)]⟩
theorem sound_slice {α : Type} {r : Rd α} {e : TypeId} (ht : P.underlying t = some (.slice e)) (hc : P.cellsOf t = 1) (hr : 0 < r.n) (he : Sound P e r) : Sound P t (sliceR r) := ⟨hc, fun {H enc W fuel cs x} h => by
  rcases open_slice ht h with ⟨rfl, _⟩ | ⟨a, len, cap, m, n, D, Pl, rfl, _, hl, hm, hmm, _, hi⟩
  · exact ⟨[], none, 0, rfl, Nat.le_refl _, Nat.zero_le _, .inl rfl⟩
  · simp only [if_true] at hmm
    subst hmm
    by_cases h0 : len = 0
    · subst h0; exact ⟨[], some a, m, rfl, Nat.zero_le _, hm, .inl rfl⟩
    rw [he.1] at hi
    have hblock : ∃ b off cs E fr, a = ⟨b, off, none⟩ ∧ W.heap[b]? = some (Obj.cells cs E fr) := by
      obtain ⟨cs', h1, _⟩ := hi 0 (by omega)
      obtain ⟨v, _, hv⟩ := cells_get h1 hr
      have e0 : (a.add (0 * r.n)).add 0 = a := by simp [Addr.add]
      rw [e0] at hv
      obtain ⟨b, off, spot⟩ := a
      simp only [World.cell?] at hv
      split at hv
      · rename_i cs E fr hb
        split at hv
        · cases hv
        · rename_i hs
          have hs' : spot = none := by cases spot with | none => rfl | some _ => simp at hs
          subst hs'
          exact ⟨b, off, cs, E, fr, rfl, hb⟩
      · cases hv
    obtain ⟨b, off, cs, E, fr, rfl, hb⟩ := hblock
    obtain ⟨ys, h1, h2⟩ := choose_list (n := len) (p := fun j x => r.lie (allL W) x (fun k => cs[off + j * r.n + k]?)) fun i hlt => by
      obtain ⟨cs', hc1, ht1⟩ := hi i (by omega)
      obtain ⟨x, hx⟩ := he.2 ht1
      refine ⟨x, r.mono (fun k v hk => ?_) hx⟩
      have hk2 : k < r.n := by
        obtain ⟨_, hl2, _⟩ := World.cells?_some hc1
        have := (List.getElem?_eq_some_iff.1 hk).1
        omega
      obtain ⟨v', e1, e2⟩ := cells_get hc1 hk2
      rw [hk] at e1; cases e1
      rw [add_add, Addr.add_mid, World.cell?] at e2
      simp only [hb] at e2
      rw [Nat.add_assoc]
      simpa using e2
    exact ⟨ys, some ⟨b, off, none⟩, m, by rw [h1]; rfl, by omega, hm, .inr ⟨b, off, cs, E, fr, b, rfl, allL_get hb, h2⟩⟩⟩
def SoundF {α : Type} (P : Program) (fs : List Field) (off : Nat) (r : Rd α) : Prop :=
  ∀ {H : Type} {enc : TypeId × Value → H} {W : World} {n : Nat} {cs : List Value} {xs : List (DataW H × List MemPlace)}, xs.length = fs.length →
    (∀ (i : Nat) (f : Field), fs[i]? = some f → DataW.trod enc P W 0 (fun _ => true) true n f.type ((cs.drop f.offset).take (P.cellsOf f.type)) = xs[i]?) → ∃ a, r.lie (allL W) a (fun k => cs[off + k]?)
theorem soundF_one {α : Type} {r : Rd α} {f : Field} {off : Nat} (h : Sound P f.type r) (ho : f.offset = off) : SoundF P [f] off r := fun {H enc W n cs xs} hl hi => by
  have h1 := hi 0 f rfl
  obtain ⟨y, hy⟩ : ∃ y, xs[0]? = some y := ⟨xs[0]'(by simp [hl]), List.getElem?_eq_getElem _⟩
  rw [hy] at h1
  obtain ⟨a, ha⟩ := h.2 h1
  refine ⟨a, r.mono (fun k v hk => ?_) ha⟩
  have := cut_get hk
  rwa [ho] at this
theorem soundF_cons {α β : Type} {r : Rd α} {s : Rd β} {f : Field} {fs : List Field} {off : Nat} (h : Sound P f.type r) (ho : f.offset = off) (hs : SoundF P fs (off + r.n) s) : SoundF P (f :: fs) off (pairR r s) := fun {H enc W n cs xs} hl hi => by
  obtain ⟨y, xs, rfl⟩ : ∃ y ys, xs = y :: ys := by
    cases xs with
    | nil => simp at hl
    | cons y ys => exact ⟨y, ys, rfl⟩
  obtain ⟨a, ha⟩ := soundF_one (P := P) h ho (enc := enc) (W := W) (n := n) (cs := cs) (xs := [y]) rfl (fun i g hg => by
    cases i with
    | zero => exact hi 0 g hg
    | succ i => simp at hg)
  obtain ⟨b, hb⟩ := hs (enc := enc) (W := W) (n := n) (cs := cs) (xs := xs) (by simpa using hl) (fun i g hg => hi (i + 1) g hg)
  exact ⟨(a, b), ha, by simpa [Nat.add_assoc] using hb⟩
theorem sound_struct {α : Type} {r : Rd α} {fs : Array Field} (ht : P.underlying t = some (.struct fs)) (hc : P.cellsOf t = r.n) (h : SoundF P fs.toList 0 r) : Sound P t r := ⟨hc, fun hx => by
  obtain ⟨xs, n, _, _, _, hl, hi⟩ := DataW.trod_struct ht hx
  obtain ⟨a, ha⟩ := h (by simpa using hl) (fun i f hf => hi i f (by simpa using hf))
  exact ⟨a, by simpa using ha⟩⟩
theorem arg_slice {α : Type} {H : Type} {enc : TypeId × Value → H} {W : World} {rc : Reach} {b0 e : TypeId} {r : Rd α} {v : Value} {d : DataW H} {p : List MemPlace} (ht : P.underlying t = some (.slice e)) (hs : Sound P t (sliceR r))
    (hval : Value.okWide P W rc b0 t v) (h : DataW.Trod enc P W 0 (fun _ => true) true t v d p) : ∃ (a : Option Addr) (cap : Nat) (xs : List α), v = .slice a xs.length cap ∧ xs.length ≤ cap ∧ cap ≤ maxLen ∧ SlLie r (allL W) a xs := by
  obtain ⟨a0, len, cap, rfl⟩ := okWide_slice ht hval
  obtain ⟨fuel, hf⟩ := h
  obtain ⟨xs, a, cap', h1, h2⟩ := hs.2 hf
  simp [Value.cells] at h1
  obtain ⟨rfl, rfl, rfl⟩ := h1
  exact ⟨_, _, xs, rfl, h2⟩
theorem arg_agg {α : Type} {H : Type} {enc : TypeId × Value → H} {W : World} {rc : Reach} {b0 : TypeId} {r : Rd α} {v : Value} {d : DataW H} {p : List MemPlace} {fs : Array Field} (ht : P.underlying t = some (.struct fs)) (hs : Sound P t r)
    (hval : Value.okWide P W rc b0 t v) (h : DataW.Trod enc P W 0 (fun _ => true) true t v d p) : ∃ (cs : Array Value) (x : α), v = .agg cs ∧ cs.size = r.n ∧ r.lie (allL W) x (fun k => cs[k]?) := by
  obtain ⟨cs, rfl, hsz⟩ := okWide_struct ht hval
  obtain ⟨fuel, hf⟩ := h
  obtain ⟨x, h1⟩ := hs.2 hf
  exact ⟨cs, x, rfl, by rw [hsz, hs.1], by simpa [Value.cells] using h1⟩
end Go.Proofs.YtekmmhmhcpaiaaaGreat
namespace Go.Proofs.YtekmmhmhcpaiaaaGreat
open Go.RowKit
def stepF (t : TbV) (c : CmV) (fl : Int) : TbV := if tryF t c fl = 0 then addF t c else t
theorem stepF_ok {t : TbV} {c : CmV} {fl : Int} (h : TbOk t) : TbOk (stepF t c fl) := by
  unfold stepF
  split
  · rename_i h0; exact addF_ok h h0
  · exact h
attribute [local irreducible] Fn WC WL WR OW Qt YieldFn QW FnP FnD FnE
theorem step_fn {tb : Nat} {t : TbV} {c : CmV} {bv : Value} {floor : Int} {S G F : List (Nat × Obj)} (hT : TbOk t) (h : TabAt tb S G t) (hG : ∀ q ∈ G, q ∈ F) (hb : VecM 1 G bv c.bins.length (c.bins.map iV)) (hr : CmR c) (hB : c.bins.length ≤ 1000) :
    Fn Tryz.prog 16 [.pointer (some ⟨tb, 0, none⟩), .agg (cmC c bv).toArray, iV floor] (S ++ F) (fun v L' => v = iV (tryF t c floor) ∧ ∃ S1 X, L' = S1 ++ (X ++ F) ∧ TabAt tb S1 (X ++ G) (stepF t c floor)) := by
  refine (add_fn h hG hb hr hB (by have := hT.few; omega) (fun row hr => by have := hT.short row hr; have := hT.few; omega) (by have := hT.few3; omega) hT.riseLe hT.rl (fun row hr => by have := hT.rshort row hr; have := hT.few; omega)).mono ?_
  rintro v L' ⟨hv, ⟨h0, hL⟩ | ⟨h0, S', X, hL, hT'⟩⟩
  · exact ⟨hv, S, [], hL, by rw [stepF, if_neg h0]; exact h⟩
  · exact ⟨hv, S', X, hL, by rw [stepF, if_pos h0]; exact hT'⟩
end Go.Proofs.YtekmmhmhcpaiaaaGreat
