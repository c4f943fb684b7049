/-
  A part of what the last of these texts needs; by itself it proves no statement.
-/
import Derived.Test.YtekmmhmhcpaiaaaGreatKP4
namespace Go.Proofs.YtekmmhmhcpaiaaaGreat
open Go.RowKit
def lateT (ops : List Oper) (m : Nat) : Bool := lateL (maskL ops 0 .e) (Nat.pow 2 m) m (Nat.sub ops.length m)
where lateL (M : T Nat) (p : Nat) : Nat → Nat → Bool
  | _, 0 => true
  | j, n + 1 => match M.get j with
    | some q => match Nat.beq (Nat.mod q p) (Nat.sub p 1) with
      | true => lateL M p (Nat.succ j) n
      | false => false
    | none => false
theorem lateT_ok {ops : List Oper} {m : Nat} (h : lateT ops m = true) {j k : Nat} (hj : j < ops.length) (hm : m ≤ j) (hk : k < m) : WaitsOn ops j k := by
  have hM := maskL_ok (ops := ops) ops 0 .e (fun i o h => by simpa using h) (fun j n h => by cases h)
  have gen : ∀ (n i : Nat), lateT.lateL (maskL ops 0 .e) (Nat.pow 2 m) i n = true → i ≤ j → j < i + n → WaitsOn ops j k := by
    intro n
    induction n with
    | zero => intro i _ h1 h2; omega
    | succ n ih =>
      intro i h h1 h2
      simp only [lateT.lateL] at h
      split at h
      · rename_i q hq
        split at h
        · rename_i hb
          by_cases e : i = j
          · subst e
            refine hM i q hq k ?_
            have hb := Nat.eq_of_beq_eq_true hb
            have hb : q % 2 ^ m = 2 ^ m - 1 := hb
            have h3 : (q % 2 ^ m).testBit k = true := by rw [hb, Nat.testBit_two_pow_sub_one]; simpa using hk
            rw [Nat.testBit_mod_two_pow] at h3
            simp only [Bool.and_eq_true] at h3
            exact h3.2
          · exact ih (i + 1) h (by omega) (by omega)
        · cases h
      · cases h
  exact gen _ m h hm (by have : Nat.sub ops.length m = ops.length - m := rfl; omega)
section
variable {c : Cx} {ops : Array Oper}
def Closed (ops : Array Oper) (listed : Array Bool) : Prop := ∀ j o, ops[j]? = some o → listed.getD j false = true → ∀ e ∈ o.after, Region.binds .any e = true → listed.getD e.on false = true
theorem Closed.reach {listed : Array Bool} (hc : Closed ops listed) {j k : Nat} (h : WaitsOn ops.toList j k) : (∀ o, ops[j]? = some o → ∀ e ∈ o.after, Region.binds .any e = true → listed.getD e.on false = true) → listed.getD k false = true := by
  induction h with
  | one hj he hb => intro hall; exact hall _ (by simpa using hj) _ he hb
  | more hj he hb h ih =>
    intro hall
    have h1 := hall _ (by simpa using hj) _ he hb
    exact ih fun o ho => hc _ o ho h1
theorem Closed.set {listed : Array Bool} (hc : Closed ops listed) {j : Nat} (hj : j ∈ Region.ready .any ops listed) : Closed ops (listed.setIfInBounds j true) := by
  obtain ⟨hun, oj, hoj, hall⟩ := mem_ready.1 hj
  have mono : ∀ k, listed.getD k false = true → (listed.setIfInBounds j true).getD k false = true := fun k hk => by
    by_cases e : j = k
    · subst e
      rcases Nat.lt_or_ge j listed.size with h' | h'
      · simp [h']
      · simp [Array.getElem?_eq_none h'] at hk
    · simpa [Array.getElem?_setIfInBounds_ne e] using hk
  intro k o ho hk e he hb
  by_cases hjk : j = k
  · subst hjk
    rw [hoj] at ho; cases ho
    exact mono _ (hall e he hb)
  · refine mono _ (hc k o ho ?_ e he hb)
    simpa [Array.getElem?_setIfInBounds_ne hjk] using hk
theorem ready_reach {listed : Array Bool} (hc : Closed ops listed) {i j : Nat} (hi : i ∈ Region.ready .any ops listed) (hj : j ∈ Region.ready .any ops listed) (h : WaitsOn ops.toList j i) : False := by
  obtain ⟨_, oj, hoj, hall⟩ := mem_ready.1 hj
  have h1 := hc.reach h fun o ho e he hb => by rw [hoj] at ho; cases ho; exact hall e he hb
  have h0 := (mem_ready.1 hi).1
  rcases Nat.lt_or_ge i listed.size with h' | h'
  · simp [h'] at h0 h1; rw [h0] at h1; cases h1
  · simp [Array.getElem?_eq_none h'] at h1
def Clean (ms : List Nat) (listed : Array Bool) : Prop := ∀ j ∈ ms, listed.getD j false = false
theorem Clean.back {ms : List Nat} {listed : Array Bool} {i : Nat} (h : Clean ms (listed.setIfInBounds i true)) : Clean ms listed := fun j hj => by
  have := h j hj
  by_cases e : i = j
  · subst e
    rcases Nat.lt_or_ge i listed.size with h' | h'
    · simp [h'] at this
    · simp [Array.getElem?_eq_none h']
  · simpa [Array.getElem?_setIfInBounds_ne e] using this
theorem Clean.set {ms : List Nat} {listed : Array Bool} {i : Nat} (h : Clean ms listed) (hi : i ∉ ms) : Clean ms (listed.setIfInBounds i true) := fun j hj => by
  have hne : i ≠ j := fun e => hi (e ▸ hj)
  have := h j hj
  simpa [Array.getElem?_setIfInBounds_ne hne] using this
def AnyK (c : Cx) (ops : Array Oper) (K : Exit → St → Prop) (Ls L0 : List (Nat × Obj)) (m : Nat) (ms : List Nat) : Nat → Array Bool → Act → World → Prop
  | 0, listed, a, w => Region.ready .any ops listed = [] ∧ liftO c K .normal a w
  | fuel + 1, listed, a, w =>
    (Region.ready .any ops listed = [] → liftO c K .normal a w) ∧
    ∀ i ∈ Region.ready .any ops listed, wpOpIn (Fw c.r) c.n c.P ops (liftO c K) i (fun a' w' => ((i < m → Mem c.g Ls w') ∧ (Clean ms (listed.setIfInBounds i true) → Mem c.g L0 w')) ∧ AnyK c ops K Ls L0 m ms fuel (listed.setIfInBounds i true) a' w') a w
theorem AnyK.any {K : Exit → St → Prop} {Ls L0 : List (Nat × Obj)} {m : Nat} {ms : List Nat} : ∀ (fuel : Nat) (listed : Array Bool) (a : Act) (w : World), AnyK c ops K Ls L0 m ms fuel listed a w → wpAnyIn (Fw c.r) c.n c.P .any ops (liftO c K) fuel listed a w
  | 0, _, _, _, h => h
  | fuel + 1, _, _, _, h => ⟨h.1, fun i hi => wpOpIn_mono (fun a' w' h' => AnyK.any fuel _ a' w' h'.2) (h.2 i hi)⟩
def aheadOk (ops : Array Oper) (ms : List Nat) (m i : Nat) : Bool := ms.all fun j => match Nat.ble m j with
  | true => true
  | false => match ops[j]? with
    | some o => o.after.any fun e => Region.binds .any e && e.on == i
    | none => true
theorem aheadOk_spec {ms : List Nat} {m i : Nat} (h : aheadOk ops ms m i = true) {j : Nat} {o : Oper} (hj : ops[j]? = some o) (hm : j ∈ ms) (hjm : j < m) : ∃ e ∈ o.after, Region.binds .any e = true ∧ e.on = i := by
  have h1 := List.all_eq_true.1 h j hm
  have hb : Nat.ble m j = false := Bool.eq_false_iff.2 fun h => by have := Nat.le_of_ble_eq_true h; omega
  simp only [hb, hj] at h1
  rw [← Array.any_toList, List.any_eq_true] at h1
  obtain ⟨e, he, h2⟩ := h1
  simp only [Bool.and_eq_true, beq_iff_eq] at h2
  exact ⟨e, by simpa using he, h2.1, h2.2⟩
theorem ready_un {listed : Array Bool} {i : Nat} (hr : i ∈ Region.ready .any ops listed) {o : Oper} {e : Edge} (he : e ∈ o.after) (hb : Region.binds .any e = true) (heq : e.on = i) (hall : ∀ e ∈ o.after, Region.binds .any e = true → listed.getD e.on false = true) : False := by
  have h1 := hall e he hb
  have h0 := (mem_ready.1 hr).1
  rw [heq] at h1
  rcases Nat.lt_or_ge i listed.size with h' | h'
  · simp [h'] at h0 h1; rw [h0] at h1; cases h1
  · simp [Array.getElem?_eq_none h'] at h1
set_option maxHeartbeats 4000000 in
theorem AnyK.first {K : Exit → St → Prop} {Ls L0 X : List (Nat × Obj)} {m : Nat} {ms : List Nat} {i : Nat} {oi : Oper} {v : Value} (hi : ops[i]? = some oi) (hsel : ∀ (j : Nat) (o : Oper) cs b, ops[j]? = some o → o.op ≠ .select cs b) (him : i < m) (hlate : lateT ops.toList m = true) (hims : i ∉ ms)
    (hX : X = Ls ∨ X = L0 ∧ aheadOk ops ms m i = true) (hsub : ∀ w, Mem c.g L0 w → Mem c.g Ls w) :
    ∀ (fuel : Nat) (listed : Array Bool) (a : Act) (w : World),
      (∀ j oj, ops[j]? = some oj → j ≠ i → listed.getD j true = false → (∀ e ∈ oj.after, Region.binds .any e = true → e.on ≠ i) → oi.apart ops oj = true) →
      Closed ops listed → i ∈ Region.ready .any ops listed → Calm c ops X oi v a → Mem c.g Ls w → (X = Ls ∨ Clean ms listed) → (Clean ms listed → Mem c.g L0 w) →
      AnyK c ops K Ls L0 m ms fuel (listed.setIfInBounds i true) (a.put oi.dst v) w → AnyK c ops K Ls L0 m ms (fuel + 1) listed a w := by
  intro fuel
  have memX : ∀ {listed : Array Bool} {w : World}, Mem c.g Ls w → (X = Ls ∨ Clean ms listed) → (Clean ms listed → Mem c.g L0 w) → Mem c.g X w := fun {listed w} hS hcl hC => by
    rcases hX with rfl | ⟨rfl, _⟩
    · exact hS
    · rcases hcl with rfl | hcl
      · exact hS
      · exact hC hcl
  induction fuel with
  | zero =>
    intro listed a w _ hclo hr hy hS hcl hC H
    refine ⟨fun h => (by rw [h] at hr; cases hr), fun j hj => ?_⟩
    by_cases hji : j = i
    · subst hji; exact hy.op hi (memX hS hcl hC) ⟨⟨fun _ => hS, fun h => hC h.back⟩, H⟩
    · have := ready_mono hj hji
      rw [H.1] at this
      cases this
  | succ fuel ih =>
    intro listed a w hfree hclo hr hy hS hcl hC H
    refine ⟨fun h => (by rw [h] at hr; cases hr), fun j hj => ?_⟩
    by_cases hji : j = i
    · subst hji; exact hy.op hi (memX hS hcl hC) ⟨⟨fun _ => hS, fun h => hC h.back⟩, H⟩
    · have h1 := H.2 j (ready_mono hj hji)
      obtain ⟨hjun, oj, hoj, hall⟩ := mem_ready.1 hj
      have hnot : ∀ e ∈ oj.after, Region.binds .any e = true → e.on ≠ i := fun e he hb heq => ready_un hr he hb heq hall
      have hjm : j < m := by
        rcases Nat.lt_or_ge j m with h' | h'
        · exact h'
        · exact (ready_reach hclo hr hj (lateT_ok hlate (by simpa using (Array.getElem?_eq_some_iff.1 hoj).1) h' him)).elim
      have hcl' : X = Ls ∨ Clean ms (listed.setIfInBounds j true) := by
        rcases hX with h | ⟨_, hah⟩
        · exact .inl h
        · rcases hcl with h | hcl
          · exact .inl h
          · refine .inr (hcl.set fun hjms => ?_)
            obtain ⟨e, he, hb, heq⟩ := aheadOk_spec hah hoj hjms hjm
            exact hnot e he hb heq
      have h2 := wpOpIn_calm hoj (hfree j oj hoj hji hjun hnot) (fun cs b => hsel i oi cs b hi) (fun cs b => hsel j oj cs b hoj) hy h1
      have hfree' : ∀ k ok, ops[k]? = some ok → k ≠ i → (listed.setIfInBounds j true).getD k true = false →
          (∀ e ∈ ok.after, Region.binds .any e = true → e.on ≠ i) → oi.apart ops ok = true := fun k ok hk hki hun hno => by
        refine hfree k ok hk hki ?_ hno
        by_cases hjk : j = k
        · subst hjk; exact hjun
        · rw [getD_set_ne true hjk] at hun; exact hun
      refine wpOpIn_mono (fun a' w' h3 => ?_) h2
      have hC' : Clean ms (listed.setIfInBounds j true) → Mem c.g L0 w' := fun h => h3.2.1.2 (by
        rw [Array.setIfInBounds_comm _ _ (Ne.symm hji)]; exact h.set hims)
      refine ⟨⟨h3.2.1.1, hC'⟩, ih (listed.setIfInBounds j true) a' w' hfree' (hclo.set hj) (ready_mono hr (Ne.symm hji)) h3.1 (h3.2.1.1 hjm) hcl' hC' ?_⟩
      rw [Array.setIfInBounds_comm _ _ hji]
      exact h3.2.2
def Plan.musts : Plan → List Nat
  | .done => []
  | .calm _ p => p.musts
  | .must i p => i :: p.musts
  | .either i p j q => i :: j :: (p.musts ++ q.musts)
  | .par l p => l.map Prod.fst ++ p.musts
def calmsOk (ms : List Nat) : Plan → Bool
  | .done => true
  | .calm i p => !ms.contains i && calmsOk ms p
  | .must _ p => calmsOk ms p
  | .either _ p _ q => calmsOk ms p && calmsOk ms q
  | .par _ p => calmsOk ms p
def WS (c : Cx) (ops : Array Oper) (K : Exit → St → Prop) (Ls L0 : List (Nat × Obj)) (m : Nat) (ms : List Nat) : Bool → Plan → St → Prop
  | _, .done, σ => K .normal σ
  | fresh, .calm i p, σ => ∃ o v X, ops[i]? = some o ∧ dok c.N o.dst = true ∧ (X = Ls ∨ X = L0 ∧ aheadOk ops ms m i = true ∧ fresh = true) ∧ (Qt c σ.s X o v ∧ o.guard = none ∨ ∃ j want og dg b, o.guard = some (j, want) ∧ ops[j]? = some og ∧ og.dst = some dg ∧ look σ.s dg = some b ∧
      ((b = .bool want ∧ Qt c σ.s X o v) ∨ ((b = .bool (!want) ∨ b = undef) ∧ v = undef ∧ ∀ cc, o.op ≠ .defer cc))) ∧ WS c ops K Ls L0 m ms fresh p (σ.put o.dst v)
  | _, .must i p, σ => Must c ops K Ls m i (fun σ' => WS c ops K Ls L0 m ms false p σ') σ
  | _, .par l p, σ => ∃ I : (Nat → Bool) → St → Prop, I (fun _ => false) σ ∧
      (∀ A σ', I A σ' → ∀ x ds, (x, ds) ∈ l → A x = false → (∀ y ∈ ds, A y = true) → Must c ops K Ls m x (fun σ'' => I (fun z => z == x || A z) σ'') σ') ∧
      ∀ A σ', I A σ' → (∀ x ∈ l.map Prod.fst, A x = true) → WS c ops K Ls L0 m ms false p σ'
  | _, .either i p j q, σ => Must c ops K Ls m i (fun σ' => WS c ops K Ls L0 m ms false p σ') σ ∧ Must c ops K Ls m j (fun σ' => WS c ops K Ls L0 m ms false q σ') σ
set_option maxHeartbeats 4000000 in
theorem Must.stepK {K : Exit → St → Prop} {Ls L0 : List (Nat × Obj)} {m : Nat} {ms : List Nat} (hlate : lateT ops.toList m = true) (hn : (Ls.map Prod.fst).Nodup) {p : Plan} {fuel : Nat} {listed : Array Bool} {σ : St} {j : Nat} (hclo : Closed ops listed) (hj : j ∈ Region.ready .any ops listed) (hjms : j ∈ ms)
    (ih : ∀ (σ : St), WS c ops K Ls L0 m ms false p σ → ∀ a w, Holds c.g c.N σ a w → (p.calms = true → Mem c.g Ls w) → (Clean ms (listed.setIfInBounds j true) → Mem c.g L0 w) → AnyK c ops K Ls L0 m ms fuel (listed.setIfInBounds j true) a w)
    (hp : planOk ops m p fuel (listed.setIfInBounds j true) = true) (h : Must c ops K Ls m j (fun σ' => WS c ops K Ls L0 m ms false p σ') σ) (a : Act) (w : World) (ha : Holds c.g c.N σ a w) :
    wpOpIn (Fw c.r) c.n c.P ops (liftO c K) j (fun a' w' => ((j < m → Mem c.g Ls w') ∧ (Clean ms (listed.setIfInBounds j true) → Mem c.g L0 w')) ∧ AnyK c ops K Ls L0 m ms fuel (listed.setIfInBounds j true) a' w') a w := by
  have hnc : ¬ Clean ms (listed.setIfInBounds j true) := fun h => by
    have h1 := h j hjms
    obtain ⟨hun, o, ho, _⟩ := mem_ready.1 hj
    rcases Nat.lt_or_ge j listed.size with h' | h'
    · simp [h'] at h1
    · simp [Array.getElem?_eq_none h'] at hun
  obtain ⟨o, ho, hW⟩ := h
  have hgo : ∀ a' w' σ', Holds c.g c.N σ' a' w' → (j < m → ∀ q ∈ Ls, q ∈ σ'.L) → WS c ops K Ls L0 m ms false p σ' → ((j < m → Mem c.g Ls w') ∧ (Clean ms (listed.setIfInBounds j true) → Mem c.g L0 w')) ∧ AnyK c ops K Ls L0 m ms fuel (listed.setIfInBounds j true) a' w' := by
    intro a' w' σ' h1 h2 h3
    have hmem : j < m → Mem c.g Ls w' := fun hjm => h1.mem.sub hn (h2 hjm)
    refine ⟨⟨hmem, fun h => absurd h hnc⟩, ih σ' h3 a' w' h1 (fun hx => ?_) (fun h => absurd h hnc)⟩
    rcases Nat.lt_or_ge j m with hjm | hjm
    · exact hmem hjm
    · exfalso
      have hall : ∀ k, k < m → (listed.setIfInBounds j true).getD k false = true := fun k hk => by
        obtain ⟨_, oj, hoj, hall⟩ := mem_ready.1 hj
        exact getD_set_true (hclo.reach (lateT_ok hlate (by simpa using (Array.getElem?_eq_some_iff.1 hoj).1) hjm hk) fun o ho e he hb => by rw [hoj] at ho; cases ho; exact hall e he hb)
      exact planOk_late p fuel _ hp hall hx
  unfold wpOpIn
  simp only [ho]
  rcases hW with ⟨hg, hW⟩ | ⟨⟨jj, want, og, dg, b, hg, hj, hdg, hb, hcase⟩, hd, h2, h3⟩
  · have hw : Region.wanted o (yielded ops a.tmps) = true := by
      rcases hg with hg | ⟨jj, want, og, dg, hg, hj, hdg, hb⟩
      · simp [Region.wanted, hg]
      · rw [wanted_yes ha hg hj hdg hb]; simp
    simp only [hw, if_true]
    exact Oper.wpIn_mono (fun a' w' ⟨σ', h1, h2, h3⟩ => hgo a' w' σ' h1 h2 h3) (hW a w ha)
  · have hw : Region.wanted o (yielded ops a.tmps) = false := by
      rcases hcase with rfl | rfl
      · rw [wanted_yes ha hg hj hdg hb]; cases want <;> rfl
      · exact wanted_undef ha hg hj hdg hb
    simp only [hw, Bool.false_eq_true, if_false]
    exact ⟨fun _ _ => trivial, hgo _ _ _ (ha.put hd undef) (by cases o.dst <;> exact h2) h3⟩
theorem Must.stepG {K : Exit → St → Prop} {Ls : List (Nat × Obj)} {m : Nat} {σ : St} {j : Nat} {W : St → Prop} {Nx : Act → World → Prop} (h : Must c ops K Ls m j W σ) (a : Act) (w : World) (ha : Holds c.g c.N σ a w)
    (hgo : ∀ a' w' σ', Holds c.g c.N σ' a' w' → (j < m → ∀ q ∈ Ls, q ∈ σ'.L) → W σ' → Nx a' w') : wpOpIn (Fw c.r) c.n c.P ops (liftO c K) j Nx a w := by
  obtain ⟨o, ho, hW⟩ := h
  unfold wpOpIn
  simp only [ho]
  rcases hW with ⟨hg, hW⟩ | ⟨⟨jj, want, og, dg, b, hg, hj, hdg, hb, hcase⟩, hd, h2, h3⟩
  · have hw : Region.wanted o (yielded ops a.tmps) = true := by
      rcases hg with hg | ⟨jj, want, og, dg, hg, hj, hdg, hb⟩
      · simp [Region.wanted, hg]
      · rw [wanted_yes ha hg hj hdg hb]; simp
    simp only [hw, if_true]
    exact Oper.wpIn_mono (fun a' w' ⟨σ', h1, h2, h3⟩ => hgo a' w' σ' h1 h2 h3) (hW a w ha)
  · have hw : Region.wanted o (yielded ops a.tmps) = false := by
      rcases hcase with rfl | rfl
      · rw [wanted_yes ha hg hj hdg hb]; cases want <;> rfl
      · exact wanted_undef ha hg hj hdg hb
    simp only [hw, Bool.false_eq_true, if_false]
    exact ⟨fun _ _ => trivial, hgo _ _ _ (ha.put hd undef) (by cases o.dst <;> exact h2) h3⟩
theorem parEach_spec {M : T Nat} {m : Nat} {listed : Array Bool} : ∀ {l : List (Nat × List Nat)} {E : List Nat}, parEach ops M m listed E l = true → ∀ {x : Nat} {ds : List Nat}, (x, ds) ∈ l → x < m ∧ listed.getD x true = false ∧ x ∉ E ∧ (∀ y ∈ ds, y ∈ E ∨ y ∈ l.map Prod.fst) ∧ (∀ y ∈ ds, bitOf M x y = true)
  | [], _, _, _, _, h => by cases h
  | (x0, d0) :: r, E, h, x, ds, hm => by
    simp only [parEach] at h
    split at h
    · rename_i o ho
      simp only [Bool.and_eq_true, Nat.blt_eq, Bool.not_eq_true', List.all_eq_true] at h
      obtain ⟨⟨⟨⟨⟨h1, h2⟩, h3⟩, h4⟩, h5⟩, h6⟩ := h
      rcases List.mem_cons.1 hm with e | hm
      · cases e
        exact ⟨h1, h2, memB_no h3, fun y hy => .inl (memB_ok (h4 y hy).1), fun y hy => (h4 y hy).2⟩
      · obtain ⟨g1, g2, g3, g4, g5⟩ := parEach_spec h6 hm
        simp only [List.mem_cons, not_or] at g3
        refine ⟨g1, g2, g3.2, fun y hy => ?_, g5⟩
        rcases g4 y hy with hy | hy
        · rcases List.mem_cons.1 hy with rfl | hy
          · exact .inr (by simp)
          · exact .inl hy
        · exact .inr (by simp only [List.map_cons, List.mem_cons]; exact .inr hy)
    · cases h
theorem parEach_next {M : T Nat} {m : Nat} {listed : Array Bool} {A : Nat → Bool} : ∀ {l : List (Nat × List Nat)} {E : List Nat}, parEach ops M m listed E l = true → (∀ x ∈ E, A x = true) → (∃ x ∈ l.map Prod.fst, A x = false) → ∃ x o, x ∈ l.map Prod.fst ∧ A x = false ∧ ops[x]? = some o ∧ ∀ e ∈ o.after, Region.binds .any e = true → listed.getD e.on false = true ∨ A e.on = true
  | [], _, _, _, ⟨x, h, _⟩ => by cases h
  | (x0, d0) :: r, E, h, hE, hx => by
    simp only [parEach] at h
    split at h
    · rename_i o ho
      simp only [Bool.and_eq_true, Nat.blt_eq, Bool.not_eq_true', List.all_eq_true] at h
      obtain ⟨⟨⟨⟨⟨h1, h2⟩, h3⟩, h4⟩, h5⟩, h6⟩ := h
      cases hA : A x0 with
      | false =>
        refine ⟨x0, o, by simp, hA, ho, fun e he hb => ?_⟩
        rw [← Array.all_toList, List.all_eq_true] at h5
        have := h5 e (by simpa using he)
        simp only [hb, Bool.not_true, Bool.false_or, Bool.or_eq_true] at this
        rcases this with h | h
        · exact .inl h
        · exact .inr (hE _ (memB_ok h))
      | true =>
        obtain ⟨x, o', g1, g2, g3, g4⟩ := parEach_next h6 (A := A) (fun x hx => by
          rcases List.mem_cons.1 hx with rfl | hx
          · exact hA
          · exact hE x hx) (by
          obtain ⟨x, hx, hAx⟩ := hx
          simp only [List.map_cons, List.mem_cons] at hx
          rcases hx with rfl | hx
          · rw [hA] at hAx; cases hAx
          · exact ⟨x, hx, hAx⟩)
        exact ⟨x, o', by simp only [List.map_cons, List.mem_cons]; exact .inr g1, g2, g3, g4⟩
    · cases h
theorem bitOf_reach {x y : Nat} (h : bitOf (maskL ops.toList 0 .e) x y = true) : WaitsOn ops.toList x y := by
  unfold bitOf at h
  split at h
  · rename_i n hn
    exact maskL_ok (ops := ops.toList) ops.toList 0 .e (fun i o h => by simpa using h) (fun j n h => by cases h) x n hn y h
  · cases h
theorem getD_of_size {listed : Array Bool} {z : Nat} (h : z < listed.size) (d : Bool) : listed.getD z d = listed[z]'h := by simp [h]
def ListedA (listed listed' : Array Bool) (A : Nat → Bool) : Prop := listed'.size = listed.size ∧ ∀ z, z < listed.size → listed'.getD z false = (listed.getD z false || A z)
theorem listAll_spec : ∀ (l : List (Nat × List Nat)) (listed : Array Bool), (listAll l listed).size = listed.size ∧ ∀ z, z < listed.size → (listAll l listed).getD z false = (listed.getD z false || memB z (l.map Prod.fst))
  | [], listed => ⟨rfl, fun z _ => by simp [listAll, memB]⟩
  | x :: r, listed => by
    obtain ⟨h1, h2⟩ := listAll_spec r (listed.setIfInBounds x.1 true)
    simp only [Array.size_setIfInBounds] at h1 h2
    refine ⟨h1, fun z hz => ?_⟩
    show (listAll r (listed.setIfInBounds x.1 true)).getD z false = _
    rw [h2 z hz]
    simp only [List.map_cons, memB]
    by_cases e : x.1 = z
    · subst e
      simp [hz]
    · have : Nat.beq x.1 z = false := Bool.eq_false_iff.2 fun h => e (Nat.eq_of_beq_eq_true h)
      simp [this, Array.getElem?_setIfInBounds_ne e]
theorem array_ext_getD {a b : Array Bool} (hs : a.size = b.size) (h : ∀ z, z < b.size → a.getD z false = b.getD z false) : a = b := by
  apply Array.ext hs
  intro i h1 h2
  have := h i h2
  rwa [getD_of_size h1, getD_of_size h2] at this
set_option maxHeartbeats 4000000 in
theorem par_any {K : Exit → St → Prop} {Ls L0 : List (Nat × Obj)} {m : Nat} {ms : List Nat} (hn : (Ls.map Prod.fst).Nodup) {l : List (Nat × List Nat)} {listed : Array Bool} (hl : parOk ops m listed l = true) (hsz : listed.size = ops.size) (hms : ∀ x ∈ l.map Prod.fst, x ∈ ms) {I : (Nat → Bool) → St → Prop}
    (hstep : ∀ A σ', I A σ' → ∀ x ds, (x, ds) ∈ l → A x = false → (∀ y ∈ ds, A y = true) → Must c ops K Ls m x (fun σ'' => I (fun z => z == x || A z) σ'') σ') {fuel : Nat}
    (hend : ∀ A σ', I A σ' → (∀ x ∈ l.map Prod.fst, A x = true) → ∀ a w, Holds c.g c.N σ' a w → Mem c.g Ls w → Closed ops (listAll l listed) → AnyK c ops K Ls L0 m ms fuel (listAll l listed) a w) :
    ∀ (k : Nat) (A : Nat → Bool) (listed' : Array Bool) (σ' : St), (∀ x, A x = true → x ∈ l.map Prod.fst) → ((l.map Prod.fst).filter fun x => !A x).length = k → ListedA listed listed' A → Closed ops listed' → I A σ' → ∀ a w, Holds c.g c.N σ' a w → Mem c.g Ls w → AnyK c ops K Ls L0 m ms (k + fuel) listed' a w := by
  simp only [parOk, Bool.and_eq_true, List.all_eq_true, List.mem_range] at hl
  obtain ⟨⟨_, hEach⟩, hRest⟩ := hl
  intro k
  induction k with
  | zero =>
    intro A listed' σ' hA hk hL hC hI a w ha hm
    have hall : ∀ x ∈ l.map Prod.fst, A x = true := fun x hx => by
      cases hAx : A x with
      | true => rfl
      | false =>
        have : x ∈ (l.map Prod.fst).filter fun x => !A x := List.mem_filter.2 ⟨hx, by simp [hAx]⟩
        rw [List.length_eq_zero_iff.1 hk] at this; cases this
    have e : listed' = listAll l listed := by
      obtain ⟨g1, g2⟩ := listAll_spec l listed
      apply array_ext_getD (hL.1.trans g1.symm)
      intro z hz
      rw [g1] at hz
      rw [hL.2 z hz, g2 z hz]
      congr 1
      cases hAz : A z with
      | true =>
        cases hb : memB z (l.map Prod.fst) with
        | true => rfl
        | false => exact absurd (hA z hAz) (memB_no hb)
      | false =>
        cases hb : memB z (l.map Prod.fst) with
        | false => rfl
        | true => rw [hall z (memB_ok hb)] at hAz; cases hAz
    subst e
    rw [Nat.zero_add]
    exact hend A σ' hI hall a w ha hm hC
  | succ k ih =>
    intro A listed' σ' hA hk hL hC hI a w ha hm
    have un : ∀ {z : Nat}, listed.getD z true = false → z < listed.size ∧ listed.getD z false = false := fun {z} h => by
      rcases Nat.lt_or_ge z listed.size with h' | h'
      · refine ⟨h', ?_⟩
        rw [getD_of_size h'] at h ⊢; exact h
      · simp [Array.getElem?_eq_none h'] at h
    rw [show k + 1 + fuel = (k + fuel) + 1 by omega]
    refine ⟨fun h0 => ?_, fun i hi => ?_⟩
    · exfalso
      have hex : ∃ x ∈ l.map Prod.fst, A x = false := by
        obtain ⟨x, hx⟩ := List.exists_mem_of_length_pos (l := (l.map Prod.fst).filter fun x => !A x) (by omega)
        obtain ⟨h1, h2⟩ := List.mem_filter.1 hx
        exact ⟨x, h1, by simpa using h2⟩
      obtain ⟨x, o, g1, g2, g3, g4⟩ := parEach_next (A := A) hEach (fun x hx => by cases hx) hex
      obtain ⟨⟨x', ds⟩, hq, rfl⟩ := List.mem_map.1 g1
      obtain ⟨q1, q2, _, _, _⟩ := parEach_spec hEach hq
      obtain ⟨u1, u2⟩ := un q2
      have : x' ∈ Region.ready .any ops listed' := mem_ready.2 ⟨by
        rw [getD_of_size (by rw [hL.1]; exact u1)]
        have := hL.2 x' u1
        rw [u2, g2] at this
        rw [getD_of_size (by rw [hL.1]; exact u1)] at this
        exact this, o, g3, fun e he hb => by
        rcases g4 e he hb with h | h
        · rcases Nat.lt_or_ge e.on listed.size with h' | h'
          · rw [hL.2 _ h', h]; rfl
          · simp [Array.getElem?_eq_none h'] at h
        · obtain ⟨⟨y, ds'⟩, hy, rfl⟩ := List.mem_map.1 (hA _ h)
          rename_i hye
          obtain ⟨_, w2, _, _, _⟩ := parEach_spec hEach hy
          rw [hL.2 _ (un w2).1, h]; simp⟩
      rw [h0] at this; cases this
    · obtain ⟨hun, oi, hoi, hall⟩ := mem_ready.1 hi
      have hisz : i < ops.size := (Array.getElem?_eq_some_iff.1 hoi).1
      have hil : i < listed.size := by rw [hsz]; exact hisz
      have hun' : listed'.getD i false = false := by
        rw [getD_of_size (by rw [hL.1]; exact hil)] at hun ⊢; exact hun
      have h2 := hL.2 i hil
      rw [hun'] at h2
      have h2 := h2.symm
      simp only [Bool.or_eq_false_iff] at h2
      obtain ⟨h3, hAi⟩ := h2
      have done : ∀ {y : Nat}, WaitsOn ops.toList i y → listed'.getD y false = true := fun {y} hr => hC.reach hr fun o ho e he hb => by rw [hoi] at ho; cases ho; exact hall e he hb
      have doneA : ∀ {y : Nat}, y ∈ l.map Prod.fst → WaitsOn ops.toList i y → A y = true := fun {y} hy hr => by
        obtain ⟨⟨y', ds'⟩, hq, rfl⟩ := List.mem_map.1 hy
        obtain ⟨_, w2, _, _, _⟩ := parEach_spec hEach hq
        have := done hr
        rw [hL.2 _ (un w2).1, (un w2).2] at this
        simpa using this
      have him : i ∈ l.map Prod.fst := by
        have := hRest i hisz
        simp only [Bool.or_eq_true, List.all_eq_true] at this
        rcases this with (h | h) | h
        · rw [getD_of_size hil] at h h3; rw [h3] at h; cases h
        · exact memB_ok h
        · exfalso
          have : ((l.map Prod.fst).filter fun x => !A x) = [] := by
            rw [List.filter_eq_nil_iff]
            intro y hy
            obtain ⟨q, hq, rfl⟩ := List.mem_map.1 hy
            have := doneA hy (bitOf_reach (h q hq))
            simp [this]
          rw [this] at hk; cases hk
      obtain ⟨⟨i', ds⟩, hq, rfl⟩ := List.mem_map.1 him
      obtain ⟨q1, q2, _, q4, q5⟩ := parEach_spec hEach hq
      have hds : ∀ y ∈ ds, A y = true := fun y hy => doneA (by
        rcases q4 y hy with h | h
        · cases h
        · exact h) (bitOf_reach (q5 y hy))
      refine Must.stepG (hstep A σ' hI i' ds hq hAi hds) a w ha fun a' w' σ'' h1 h2 h3 => ?_
      have hmem : Mem c.g Ls w' := h1.mem.sub hn (h2 q1)
      have hnc : ¬ Clean ms (listed'.setIfInBounds i' true) := fun h => by
        have h1 := h i' (hms _ him)
        rw [getD_of_size (by rw [Array.size_setIfInBounds, hL.1]; exact hil)] at h1
        simp at h1
      refine ⟨⟨fun _ => hmem, fun h => absurd h hnc⟩, ih (fun z => z == i' || A z) _ σ'' (fun x hx => ?_) ?_ ⟨by rw [Array.size_setIfInBounds]; exact hL.1, fun z hz => ?_⟩ (hC.set hi) h3 a' w' h1 hmem⟩
      · simp only [Bool.or_eq_true, beq_iff_eq] at hx
        rcases hx with rfl | hx
        · exact him
        · exact hA x hx
      · have nd : (l.map Prod.fst).Nodup := by
          have gen : ∀ (l : List (Nat × List Nat)) (E : List Nat), parEach ops (maskL ops.toList 0 .e) m listed E l = true → (l.map Prod.fst).Nodup := by
            intro l
            induction l with
            | nil => intro E _; simp
            | cons x r ihl =>
              intro E h
              have h' := h
              obtain ⟨x0, d0⟩ := x
              simp only [parEach] at h
              split at h
              · simp only [Bool.and_eq_true] at h
                simp only [List.map_cons, List.nodup_cons]
                refine ⟨fun hx => ?_, ihl _ h.2⟩
                obtain ⟨⟨y, ds'⟩, hy, e⟩ := List.mem_map.1 hx
                obtain ⟨_, _, w3, _, _⟩ := parEach_spec h.2 hy
                have e : y = x0 := e
                exact w3 (by rw [e]; exact List.mem_cons_self)
              · cases h
          exact gen l [] hEach
        have cnt : ∀ (L : List Nat), L.Nodup → i' ∈ L → (L.filter fun x => !A x).length = (L.filter fun x => !(x == i' || A x)).length + 1 := by
          intro L
          induction L with
          | nil => intro _ h; cases h
          | cons x r ihL =>
            intro hn hmem
            simp only [List.nodup_cons] at hn
            by_cases e : x = i'
            · subst e
              have hr : ∀ y ∈ r, (!(y == x || A y)) = !A y := fun y hy => by
                have : y ≠ x := fun e => hn.1 (e ▸ hy)
                simp [this]
              rw [List.filter_cons_of_pos (by simp [hAi]), List.filter_cons_of_neg (by simp), List.length_cons, List.filter_congr hr]
            · have hm' : i' ∈ r := by
                rcases List.mem_cons.1 hmem with h | h
                · exact absurd h.symm e
                · exact h
              have := ihL hn.2 hm'
              cases hAx : A x with
              | true => rw [List.filter_cons_of_neg (by simp [hAx]), List.filter_cons_of_neg (by simp [hAx])]; exact this
              | false => rw [List.filter_cons_of_pos (by simp [hAx]), List.filter_cons_of_pos (by simp [hAx, e]), List.length_cons, List.length_cons, this]
        have := cnt _ nd him
        omega
      · by_cases e : i' = z
        · subst e
          rw [getD_of_size (by rw [Array.size_setIfInBounds, hL.1]; exact hz)]
          simp
        · have := hL.2 z hz
          have e2 : (z == i') = false := by simpa using Ne.symm e
          simp only [e2, Bool.false_or]
          rw [← this]
          simp [Array.getElem?_setIfInBounds_ne e]
set_option maxHeartbeats 4000000 in
theorem WS_any {K : Exit → St → Prop} {Ls L0 : List (Nat × Obj)} {m : Nat} {ms : List Nat} (hs : Region.noSelect ops = true) (hlate : lateT ops.toList m = true) (hn : (Ls.map Prod.fst).Nodup) (hsub : ∀ w, Mem c.g L0 w → Mem c.g Ls w) :
    ∀ (p : Plan) (fresh : Bool) (fuel : Nat) (listed : Array Bool) (σ : St), (∀ j ∈ p.musts, j ∈ ms) → calmsOk ms p = true → (fresh = true → Clean ms listed) → Closed ops listed → listed.size = ops.size → planOk ops m p fuel listed = true → WS c ops K Ls L0 m ms fresh p σ → ∀ a w, Holds c.g c.N σ a w → (p.calms = true → Mem c.g Ls w) → (Clean ms listed → Mem c.g L0 w) → AnyK c ops K Ls L0 m ms fuel listed a w := by
  intro p
  induction p with
  | done =>
    intro fresh fuel listed σ _ _ _ _ _ hp h a w ha _ _
    simp only [planOk, Bool.and_eq_true, List.isEmpty_iff] at hp
    obtain ⟨hp, hf⟩ := hp
    obtain rfl := Nat.eq_of_beq_eq_true hf
    exact ⟨hp, σ, ha, h⟩
  | calm i p ih =>
    intro fresh fuel listed σ hms hcm hfr hclo hsz hp h a w ha hm hC
    cases fuel with
    | zero => cases hp
    | succ fuel =>
      simp only [planOk, Bool.and_eq_true, Nat.blt_eq] at hp
      obtain ⟨⟨⟨him, hf⟩, hr⟩, hp⟩ := hp
      simp only [calmsOk, Bool.and_eq_true, Bool.not_eq_true'] at hcm
      have hims : i ∉ ms := fun hx => by
        have := List.contains_iff_mem.2 hx
        rw [hcm.1] at this; cases this
      obtain ⟨o, v, X, ho, hd, hX, hq, hrest⟩ := h
      have hmem : Mem c.g Ls w := hm rfl
      have hcalm : Calm c ops X o v a := by
        rcases hq with ⟨hq, hg⟩ | ⟨j, want, og, dg, b, hg, hj, hdg, hb, hcase⟩
        · exact ⟨hq.1, .inl ⟨by simp [Region.wanted, hg], fun w hw => hq.2 a.eval (fun x u hu => ha.ev hu) w hw⟩⟩
        · have hy : ∀ b', b = .bool b' → Region.wanted o (yielded ops a.tmps) = (b' == want) := fun b' e => by
            subst e; exact wanted_yes ha hg hj hdg hb
          rcases hcase with ⟨hb', hq⟩ | ⟨hb', rfl, hnd⟩
          · exact ⟨hq.1, .inl ⟨by rw [hy _ hb']; simp, fun w hw => hq.2 a.eval (fun x u hu => ha.ev hu) w hw⟩⟩
          · refine ⟨hnd, .inr ⟨?_, rfl⟩⟩
            rcases hb' with hb' | hb'
            · rw [hy _ hb']; cases want <;> rfl
            · subst hb'; exact wanted_undef ha hg hj hdg hb
      refine AnyK.first (X := X) ho (Region.noSelect_spec hs) him hlate hims (hX.imp id fun h => ⟨h.1, h.2.1⟩) hsub fuel listed a w (Region.free_spec ho hf) hclo (by simpa using hr) hcalm hmem (hX.imp id fun h => hfr h.2.2) hC
        (ih fresh fuel _ _ hms hcm.2 (fun h => (hfr h).set hims) (hclo.set (by simpa using hr)) (by rw [Array.size_setIfInBounds]; exact hsz) hp hrest _ w (ha.put hd v) (fun _ => hmem) (fun h => hC h.back))
  | must i p ih =>
    intro fresh fuel listed σ hms hcm hfr hclo hsz hp h a w ha hm hC
    cases fuel with
    | zero => cases hp
    | succ fuel =>
      simp only [planOk, Bool.and_eq_true, beq_iff_eq] at hp
      obtain ⟨hr, hp⟩ := hp
      refine ⟨fun h0 => (by rw [hr] at h0; cases h0), fun j hj => ?_⟩
      have hj' := hj
      rw [hr] at hj
      obtain rfl := List.mem_singleton.1 hj
      exact Must.stepK hlate hn hclo hj' (hms j List.mem_cons_self) (fun σ' h' a' w' ha' hm' hC' => ih false fuel _ σ' (fun k hk => hms k (List.mem_cons_of_mem _ hk)) hcm (fun h => by cases h) (hclo.set hj') (by rw [Array.size_setIfInBounds]; exact hsz) hp h' a' w' ha' hm' hC') hp h a w ha
  | either i p j q ihp ihq =>
    intro fresh fuel listed σ hms hcm hfr hclo hsz hp h a w ha hm hC
    cases fuel with
    | zero => cases hp
    | succ fuel =>
      simp only [planOk, Bool.and_eq_true, beq_iff_eq] at hp
      obtain ⟨⟨hr, hp⟩, hq⟩ := hp
      simp only [calmsOk, Bool.and_eq_true] at hcm
      refine ⟨fun h0 => (by rw [hr] at h0; cases h0), fun k hk => ?_⟩
      have hk' := hk
      rw [hr] at hk
      rcases List.mem_cons.1 hk with rfl | hk
      · exact Must.stepK hlate hn hclo hk' (hms k List.mem_cons_self) (fun σ' h' a' w' ha' hm' hC' => ihp false fuel _ σ' (fun x hx => hms x (by simp [Plan.musts, hx])) hcm.1 (fun h => by cases h) (hclo.set hk') (by rw [Array.size_setIfInBounds]; exact hsz) hp h' a' w' ha' hm' hC') hp h.1 a w ha
      · obtain rfl := List.mem_singleton.1 hk
        exact Must.stepK hlate hn hclo hk' (hms k (by simp [Plan.musts])) (fun σ' h' a' w' ha' hm' hC' => ihq false fuel _ σ' (fun x hx => hms x (by simp [Plan.musts, hx])) hcm.2 (fun h => by cases h) (hclo.set hk') (by rw [Array.size_setIfInBounds]; exact hsz) hq h' a' w' ha' hm' hC') hq h.2 a w ha
  | par l p ih =>
    intro fresh fuel listed σ hms hcm hfr hclo hsz hp h a w ha hm hC
    simp only [planOk, Bool.and_eq_true] at hp
    obtain ⟨⟨hl, hle⟩, hp⟩ := hp
    have hle : l.length ≤ fuel := Nat.le_of_ble_eq_true hle
    obtain ⟨I, h0, hstep, hend⟩ := h
    have h1 := par_any (L0 := L0) (fuel := Nat.sub fuel l.length) hn hl hsz (fun x hx => hms x (List.mem_append_left _ hx)) hstep (fun A σ' hI hall a w ha hm hC => ih false _ _ σ' (fun x hx => hms x (List.mem_append_right _ hx)) hcm (fun h => by cases h) hC (by rw [(listAll_spec l listed).1]; exact hsz) hp (hend A σ' hI hall) a w ha (fun _ => hm) (fun h => ?_)) l.length (fun _ => false) listed σ (fun x hx => by cases hx) (by rw [List.filter_eq_self.2 (by simp)]; simp) ⟨rfl, fun z _ => by simp⟩ hclo h0 a w ha (hm rfl)
    · have e : l.length + Nat.sub fuel l.length = fuel := by
        show l.length + (fuel - l.length) = fuel
        omega
      rwa [e] at h1
    · exfalso
      simp only [parOk, Bool.and_eq_true] at hl
      obtain ⟨⟨g1, g2⟩, _⟩ := hl
      cases l with
      | nil => cases g1
      | cons q r =>
        obtain ⟨x, ds⟩ := q
        obtain ⟨_, w2, _, _, _⟩ := parEach_spec g2 (x := x) (ds := ds) (by simp)
        have hx := h x (hms x (List.mem_append_left _ (by simp)))
        have hlt : x < listed.size := by
          rcases Nat.lt_or_ge x listed.size with h' | h'
          · exact h'
          · simp [Array.getElem?_eq_none h'] at w2
        rw [(listAll_spec ((x, ds) :: r) listed).2 x hlt] at hx
        simp [memB] at hx
theorem WC_drawK {K : Exit → St → Prop} {σ : St} {id : Nat} (Ls : List (Nat × Obj)) (m : Nat) (p : Plan) (hm : c.P.follows .mixedOrders = true)
    (hok : (Region.noSelect ops && lateT ops.toList m && planOk ops m p ops.size (Array.replicate ops.size false)) = true) (hcm : calmsOk p.musts p = true) (hsub : Ls.Sublist σ.L) (h : WS c ops K Ls σ.L m p.musts true p σ) : WC c (.region id ops true) K σ := fun a w ha => by
  simp only [Bool.and_eq_true] at hok
  have ha' : Holds c.g c.N σ a { w with drawn := w.drawn + 1 } := ha.mem' ha.mem.drew
  exact Go.wpIn_mono (wpIn_region_any hm (AnyK.any _ _ _ _ (WS_any hok.1.1 hok.1.2 (ha.mem.nodup.sublist (hsub.map _)) (fun w hw => hw.sublist hsub) p true _ _ σ (fun _ h => h) hcm (fun _ j _ => by
    simp [Array.getElem?_replicate]; split <;> rfl) (fun j o _ hj => by
    rw [Array.getD_eq_getD_getElem?, Array.getElem?_replicate] at hj
    split at hj <;> cases hj) (by simp) hok.2 h a _ ha' (fun _ => ha'.mem.sublist hsub) (fun _ => ha'.mem)))) fun _ _ _ hl => hl.lift
end
end Go.Proofs.YtekmmhmhcpaiaaaGreat
