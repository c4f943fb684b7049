/-
  A part of what the last of these texts needs; by itself it proves no statement.
-/
import Derived.RecoverIn
import Derived.WalkSpells
import Derived.MapKept
import Derived.Laws.StructEq
import Derived.Laws.IdiomStrings
import Derived.Great.BuildSlice
import Derived.Laws.MakeOwn
import Derived.Deep.Upon
import Derived.LoopNIn
import Derived.Maps.RangeRun
import Derived.Test.YtmdiabglbmgkkaaKG1
namespace Go.Proofs.Ytmdiabglbmgkkaa
open Go.RowKit
def lateT (ops : List Oper) (m : Nat) : Bool := lateL (maskL ops 0 .e) (Nat.pow 2 m) m (Nat.sub ops.length m)
where lateL (M : T Nat) (p : Nat) : Nat → Nat → Bool
  | _, 0 => true
  | j, n + 1 => match M.get j with
    | some q => match Nat.beq (Nat.mod q p) (Nat.sub p 1) with
      | true => lateL M p (Nat.succ j) n
      | false => false
    | none => false
theorem lateT_ok {ops : List Oper} {m : Nat} (h : lateT ops m = true) {j k : Nat} (hj : j < ops.length) (hm : m ≤ j) (hk : k < m) : WaitsOn ops j k := by
  have hM := maskL_ok (ops := ops) ops 0 .e (fun i o h => by simpa using h) (fun j n h => by cases h)
  have gen : ∀ (n i : Nat), lateT.lateL (maskL ops 0 .e) (Nat.pow 2 m) i n = true → i ≤ j → j < i + n → WaitsOn ops j k := by
    intro n
    induction n with
    | zero => intro i _ h1 h2; omega
    | succ n ih =>
      intro i h h1 h2
      simp only [lateT.lateL] at h
      split at h
      · rename_i q hq
        split at h
        · rename_i hb
          by_cases e : i = j
          · subst e
            refine hM i q hq k ?_
            have hb := Nat.eq_of_beq_eq_true hb
            have hb : q % 2 ^ m = 2 ^ m - 1 := hb
            have h3 : (q % 2 ^ m).testBit k = true := by rw [hb, Nat.testBit_two_pow_sub_one]; simpa using hk
            rw [Nat.testBit_mod_two_pow] at h3
            simp only [Bool.and_eq_true] at h3
            exact h3.2
          · exact ih (i + 1) h (by omega) (by omega)
        · cases h
      · cases h
  exact gen _ m h hm (by have : Nat.sub ops.length m = ops.length - m := rfl; omega)
section
variable {c : Cx} {ops : Array Oper}
def Closed (ops : Array Oper) (listed : Array Bool) : Prop := ∀ j o, ops[j]? = some o → listed.getD j false = true → ∀ e ∈ o.after, Region.binds .any e = true → listed.getD e.on false = true
theorem Closed.reach {listed : Array Bool} (hc : Closed ops listed) {j k : Nat} (h : WaitsOn ops.toList j k) : (∀ o, ops[j]? = some o → ∀ e ∈ o.after, Region.binds .any e = true → listed.getD e.on false = true) → listed.getD k false = true := by
  induction h with
  | one hj he hb => intro hall; exact hall _ (by simpa using hj) _ he hb
  | more hj he hb h ih =>
    intro hall
    have h1 := hall _ (by simpa using hj) _ he hb
    exact ih fun o ho => hc _ o ho h1
theorem Closed.set {listed : Array Bool} (hc : Closed ops listed) {j : Nat} (hj : j ∈ Region.ready .any ops listed) : Closed ops (listed.setIfInBounds j true) := by
  obtain ⟨hun, oj, hoj, hall⟩ := mem_ready.1 hj
  have mono : ∀ k, listed.getD k false = true → (listed.setIfInBounds j true).getD k false = true := fun k hk => by
    by_cases e : j = k
    · subst e
      rcases Nat.lt_or_ge j listed.size with h' | h'
      · simp [h']
      · simp [Array.getElem?_eq_none h'] at hk
    · simpa [Array.getElem?_setIfInBounds_ne e] using hk
  intro k o ho hk e he hb
  by_cases hjk : j = k
  · subst hjk
    rw [hoj] at ho; cases ho
    exact mono _ (hall e he hb)
  · refine mono _ (hc k o ho ?_ e he hb)
    simpa [Array.getElem?_setIfInBounds_ne hjk] using hk
theorem ready_reach {listed : Array Bool} (hc : Closed ops listed) {i j : Nat} (hi : i ∈ Region.ready .any ops listed) (hj : j ∈ Region.ready .any ops listed) (h : WaitsOn ops.toList j i) : False := by
  obtain ⟨_, oj, hoj, hall⟩ := mem_ready.1 hj
  have h1 := hc.reach h fun o ho e he hb => by rw [hoj] at ho; cases ho; exact hall e he hb
  have h0 := (mem_ready.1 hi).1
  rcases Nat.lt_or_ge i listed.size with h' | h'
  · simp [h'] at h0 h1; rw [h0] at h1; cases h1
  · simp [Array.getElem?_eq_none h'] at h1
def Clean (ms : List Nat) (listed : Array Bool) : Prop := ∀ j ∈ ms, listed.getD j false = false
theorem Clean.back {ms : List Nat} {listed : Array Bool} {i : Nat} (h : Clean ms (listed.setIfInBounds i true)) : Clean ms listed := fun j hj => by
  have := h j hj
  by_cases e : i = j
  · subst e
    rcases Nat.lt_or_ge i listed.size with h' | h'
    · simp [h'] at this
    · simp [Array.getElem?_eq_none h']
  · simpa [Array.getElem?_setIfInBounds_ne e] using this
theorem Clean.set {ms : List Nat} {listed : Array Bool} {i : Nat} (h : Clean ms listed) (hi : i ∉ ms) : Clean ms (listed.setIfInBounds i true) := fun j hj => by
  have hne : i ≠ j := fun e => hi (e ▸ hj)
  have := h j hj
  simpa [Array.getElem?_setIfInBounds_ne hne] using this
def AnyK (c : Cx) (ops : Array Oper) (K : Exit → St → Prop) (Ls L0 : List (Nat × Obj)) (m : Nat) (ms : List Nat) : Nat → Array Bool → Act → World → Prop
  | 0, listed, a, w => Region.ready .any ops listed = [] ∧ liftO c K .normal a w
  | fuel + 1, listed, a, w =>
    (Region.ready .any ops listed = [] → liftO c K .normal a w) ∧
    ∀ i ∈ Region.ready .any ops listed, wpOpIn (Fw c.r) c.n c.P ops (liftO c K) i (fun a' w' => ((i < m → Mem c.g Ls w') ∧ (Clean ms (listed.setIfInBounds i true) → Mem c.g L0 w')) ∧ AnyK c ops K Ls L0 m ms fuel (listed.setIfInBounds i true) a' w') a w
theorem AnyK.any {K : Exit → St → Prop} {Ls L0 : List (Nat × Obj)} {m : Nat} {ms : List Nat} : ∀ (fuel : Nat) (listed : Array Bool) (a : Act) (w : World), AnyK c ops K Ls L0 m ms fuel listed a w → wpAnyIn (Fw c.r) c.n c.P .any ops (liftO c K) fuel listed a w
  | 0, _, _, _, h => h
  | fuel + 1, _, _, _, h => ⟨h.1, fun i hi => wpOpIn_mono (fun a' w' h' => AnyK.any fuel _ a' w' h'.2) (h.2 i hi)⟩
def aheadOk (ops : Array Oper) (ms : List Nat) (m i : Nat) : Bool := ms.all fun j => match Nat.ble m j with
  | true => true
  | false => match ops[j]? with
    | some o => o.after.any fun e => Region.binds .any e && e.on == i
    | none => true
theorem aheadOk_spec {ms : List Nat} {m i : Nat} (h : aheadOk ops ms m i = true) {j : Nat} {o : Oper} (hj : ops[j]? = some o) (hm : j ∈ ms) (hjm : j < m) : ∃ e ∈ o.after, Region.binds .any e = true ∧ e.on = i := by
  have h1 := List.all_eq_true.1 h j hm
  have hb : Nat.ble m j = false := Bool.eq_false_iff.2 fun h => by have := Nat.le_of_ble_eq_true h; omega
  simp only [hb, hj] at h1
  rw [← Array.any_toList, List.any_eq_true] at h1
  obtain ⟨e, he, h2⟩ := h1
  simp only [Bool.and_eq_true, beq_iff_eq] at h2
  exact ⟨e, by simpa using he, h2.1, h2.2⟩
theorem ready_un {listed : Array Bool} {i : Nat} (hr : i ∈ Region.ready .any ops listed) {o : Oper} {e : Edge} (he : e ∈ o.after) (hb : Region.binds .any e = true) (heq : e.on = i) (hall : ∀ e ∈ o.after, Region.binds .any e = true → listed.getD e.on false = true) : False := by
  have h1 := hall e he hb
  have h0 := (mem_ready.1 hr).1
  rw [heq] at h1
  rcases Nat.lt_or_ge i listed.size with h' | h'
  · simp [h'] at h0 h1; rw [h0] at h1; cases h1
  · simp [Array.getElem?_eq_none h'] at h1
theorem AnyK.first {K : Exit → St → Prop} {Ls L0 X : List (Nat × Obj)} {m : Nat} {ms : List Nat} {i : Nat} {oi : Oper} {v : Value} (hi : ops[i]? = some oi) (hsel : ∀ (j : Nat) (o : Oper) cs b, ops[j]? = some o → o.op ≠ .select cs b) (him : i < m) (hlate : lateT ops.toList m = true) (hims : i ∉ ms)
    (hX : X = Ls ∨ X = L0 ∧ aheadOk ops ms m i = true) (hsub : ∀ w, Mem c.g L0 w → Mem c.g Ls w) :
    ∀ (fuel : Nat) (listed : Array Bool) (a : Act) (w : World),
      (∀ j oj, ops[j]? = some oj → j ≠ i → listed.getD j true = false → (∀ e ∈ oj.after, Region.binds .any e = true → e.on ≠ i) → oi.apart ops oj = true) →
      Closed ops listed → i ∈ Region.ready .any ops listed → Calm c ops X oi v a → Mem c.g Ls w → (X = Ls ∨ Clean ms listed) → (Clean ms listed → Mem c.g L0 w) →
      AnyK c ops K Ls L0 m ms fuel (listed.setIfInBounds i true) (a.put oi.dst v) w → AnyK c ops K Ls L0 m ms (fuel + 1) listed a w := by
  intro fuel
  have memX : ∀ {listed : Array Bool} {w : World}, Mem c.g Ls w → (X = Ls ∨ Clean ms listed) → (Clean ms listed → Mem c.g L0 w) → Mem c.g X w := fun {listed w} hS hcl hC => by
    rcases hX with rfl | ⟨rfl, _⟩
    · exact hS
    · rcases hcl with rfl | hcl
      · exact hS
      · exact hC hcl
  induction fuel with
  | zero =>
    intro listed a w _ hclo hr hy hS hcl hC H
    refine ⟨fun h => (by rw [h] at hr; cases hr), fun j hj => ?_⟩
    by_cases hji : j = i
    · subst hji; exact hy.op hi (memX hS hcl hC) ⟨⟨fun _ => hS, fun h => hC h.back⟩, H⟩
    · have := ready_mono hj hji
      rw [H.1] at this
      cases this
  | succ fuel ih =>
    intro listed a w hfree hclo hr hy hS hcl hC H
    refine ⟨fun h => (by rw [h] at hr; cases hr), fun j hj => ?_⟩
    by_cases hji : j = i
    · subst hji; exact hy.op hi (memX hS hcl hC) ⟨⟨fun _ => hS, fun h => hC h.back⟩, H⟩
    · have h1 := H.2 j (ready_mono hj hji)
      obtain ⟨hjun, oj, hoj, hall⟩ := mem_ready.1 hj
      have hnot : ∀ e ∈ oj.after, Region.binds .any e = true → e.on ≠ i := fun e he hb heq => ready_un hr he hb heq hall
      have hjm : j < m := by
        rcases Nat.lt_or_ge j m with h' | h'
        · exact h'
        · exact (ready_reach hclo hr hj (lateT_ok hlate (by simpa using (Array.getElem?_eq_some_iff.1 hoj).1) h' him)).elim
      have hcl' : X = Ls ∨ Clean ms (listed.setIfInBounds j true) := by
        rcases hX with h | ⟨_, hah⟩
        · exact .inl h
        · rcases hcl with h | hcl
          · exact .inl h
          · refine .inr (hcl.set fun hjms => ?_)
            obtain ⟨e, he, hb, heq⟩ := aheadOk_spec hah hoj hjms hjm
            exact hnot e he hb heq
      have h2 := wpOpIn_calm hoj (hfree j oj hoj hji hjun hnot) (fun cs b => hsel i oi cs b hi) (fun cs b => hsel j oj cs b hoj) hy h1
      have hfree' : ∀ k ok, ops[k]? = some ok → k ≠ i → (listed.setIfInBounds j true).getD k true = false →
          (∀ e ∈ ok.after, Region.binds .any e = true → e.on ≠ i) → oi.apart ops ok = true := fun k ok hk hki hun hno => by
        refine hfree k ok hk hki ?_ hno
        by_cases hjk : j = k
        · subst hjk; exact hjun
        · rw [getD_set_ne true hjk] at hun; exact hun
      refine wpOpIn_mono (fun a' w' h3 => ?_) h2
      have hC' : Clean ms (listed.setIfInBounds j true) → Mem c.g L0 w' := fun h => h3.2.1.2 (by
        rw [Array.setIfInBounds_comm _ _ (Ne.symm hji)]; exact h.set hims)
      refine ⟨⟨h3.2.1.1, hC'⟩, ih (listed.setIfInBounds j true) a' w' hfree' (hclo.set hj) (ready_mono hr (Ne.symm hji)) h3.1 (h3.2.1.1 hjm) hcl' hC' ?_⟩
      rw [Array.setIfInBounds_comm _ _ hji]
      exact h3.2.2
def Plan.musts : Plan → List Nat
  | .done => []
  | .calm _ p => p.musts
  | .must i p => i :: p.musts
  | .either i p j q => i :: j :: (p.musts ++ q.musts)
  | .par l p => l.map Prod.fst ++ p.musts
def calmsOk (ms : List Nat) : Plan → Bool
  | .done => true
  | .calm i p => !ms.contains i && calmsOk ms p
  | .must _ p => calmsOk ms p
  | .either _ p _ q => calmsOk ms p && calmsOk ms q
  | .par _ p => calmsOk ms p
def WS (c : Cx) (ops : Array Oper) (K : Exit → St → Prop) (Ls L0 : List (Nat × Obj)) (m : Nat) (ms : List Nat) : Bool → Plan → St → Prop
  | _, .done, σ => K .normal σ
  | fresh, .calm i p, σ => ∃ o v X, ops[i]? = some o ∧ dok c.N o.dst = true ∧ (X = Ls ∨ X = L0 ∧ aheadOk ops ms m i = true ∧ fresh = true) ∧ (Qt c σ.s X o v ∧ o.guard = none ∨ ∃ j want og dg b, o.guard = some (j, want) ∧ ops[j]? = some og ∧ og.dst = some dg ∧ look σ.s dg = some b ∧
      ((b = .bool want ∧ Qt c σ.s X o v) ∨ ((b = .bool (!want) ∨ b = undef) ∧ v = undef ∧ ∀ cc, o.op ≠ .defer cc))) ∧ WS c ops K Ls L0 m ms fresh p (σ.put o.dst v)
  | _, .must i p, σ => Must c ops K Ls m i (fun σ' => WS c ops K Ls L0 m ms false p σ') σ
  | _, .par l p, σ => ∃ I : (Nat → Bool) → St → Prop, I (fun _ => false) σ ∧
      (∀ A σ', I A σ' → ∀ x ds, (x, ds) ∈ l → A x = false → (∀ y ∈ ds, A y = true) → Must c ops K Ls m x (fun σ'' => I (fun z => z == x || A z) σ'') σ') ∧
      ∀ A σ', I A σ' → (∀ x ∈ l.map Prod.fst, A x = true) → WS c ops K Ls L0 m ms false p σ'
  | _, .either i p j q, σ => Must c ops K Ls m i (fun σ' => WS c ops K Ls L0 m ms false p σ') σ ∧ Must c ops K Ls m j (fun σ' => WS c ops K Ls L0 m ms false q σ') σ
theorem Must.stepK {K : Exit → St → Prop} {Ls L0 : List (Nat × Obj)} {m : Nat} {ms : List Nat} (hlate : lateT ops.toList m = true) (hn : (Ls.map Prod.fst).Nodup) {p : Plan} {fuel : Nat} {listed : Array Bool} {σ : St} {j : Nat} (hclo : Closed ops listed) (hj : j ∈ Region.ready .any ops listed) (hjms : j ∈ ms)
    (ih : ∀ (σ : St), WS c ops K Ls L0 m ms false p σ → ∀ a w, Holds c.g c.N σ a w → (p.calms = true → Mem c.g Ls w) → (Clean ms (listed.setIfInBounds j true) → Mem c.g L0 w) → AnyK c ops K Ls L0 m ms fuel (listed.setIfInBounds j true) a w)
    (hp : planOk ops m p fuel (listed.setIfInBounds j true) = true) (h : Must c ops K Ls m j (fun σ' => WS c ops K Ls L0 m ms false p σ') σ) (a : Act) (w : World) (ha : Holds c.g c.N σ a w) :
    wpOpIn (Fw c.r) c.n c.P ops (liftO c K) j (fun a' w' => ((j < m → Mem c.g Ls w') ∧ (Clean ms (listed.setIfInBounds j true) → Mem c.g L0 w')) ∧ AnyK c ops K Ls L0 m ms fuel (listed.setIfInBounds j true) a' w') a w := by
  have hnc : ¬ Clean ms (listed.setIfInBounds j true) := fun h => by
    have h1 := h j hjms
    obtain ⟨hun, o, ho, _⟩ := mem_ready.1 hj
    rcases Nat.lt_or_ge j listed.size with h' | h'
    · simp [h'] at h1
    · simp [Array.getElem?_eq_none h'] at hun
  obtain ⟨o, ho, hW⟩ := h
  have hgo : ∀ a' w' σ', Holds c.g c.N σ' a' w' → (j < m → ∀ q ∈ Ls, q ∈ σ'.L) → WS c ops K Ls L0 m ms false p σ' → ((j < m → Mem c.g Ls w') ∧ (Clean ms (listed.setIfInBounds j true) → Mem c.g L0 w')) ∧ AnyK c ops K Ls L0 m ms fuel (listed.setIfInBounds j true) a' w' := by
    intro a' w' σ' h1 h2 h3
    have hmem : j < m → Mem c.g Ls w' := fun hjm => h1.mem.sub hn (h2 hjm)
    refine ⟨⟨hmem, fun h => absurd h hnc⟩, ih σ' h3 a' w' h1 (fun hx => ?_) (fun h => absurd h hnc)⟩
    rcases Nat.lt_or_ge j m with hjm | hjm
    · exact hmem hjm
    · exfalso
      have hall : ∀ k, k < m → (listed.setIfInBounds j true).getD k false = true := fun k hk => by
        obtain ⟨_, oj, hoj, hall⟩ := mem_ready.1 hj
        exact getD_set_true (hclo.reach (lateT_ok hlate (by simpa using (Array.getElem?_eq_some_iff.1 hoj).1) hjm hk) fun o ho e he hb => by rw [hoj] at ho; cases ho; exact hall e he hb)
      exact planOk_late p fuel _ hp hall hx
  unfold wpOpIn
  simp only [ho]
  rcases hW with ⟨hg, hW⟩ | ⟨⟨jj, want, og, dg, b, hg, hj, hdg, hb, hcase⟩, hd, h2, h3⟩
  · have hw : Region.wanted o (yielded ops a.tmps) = true := by
      rcases hg with hg | ⟨jj, want, og, dg, hg, hj, hdg, hb⟩
      · simp [Region.wanted, hg]
      · rw [wanted_yes ha hg hj hdg hb]; simp
    simp only [hw, if_true]
    exact Oper.wpIn_mono (fun a' w' ⟨σ', h1, h2, h3⟩ => hgo a' w' σ' h1 h2 h3) (hW a w ha)
  · have hw : Region.wanted o (yielded ops a.tmps) = false := by
      rcases hcase with rfl | rfl
      · rw [wanted_yes ha hg hj hdg hb]; cases want <;> rfl
      · exact wanted_undef ha hg hj hdg hb
    simp only [hw, Bool.false_eq_true, if_false]
    exact ⟨fun _ _ => trivial, hgo _ _ _ (ha.put hd undef) (by cases o.dst <;> exact h2) h3⟩
theorem Must.stepG {K : Exit → St → Prop} {Ls : List (Nat × Obj)} {m : Nat} {σ : St} {j : Nat} {W : St → Prop} {Nx : Act → World → Prop} (h : Must c ops K Ls m j W σ) (a : Act) (w : World) (ha : Holds c.g c.N σ a w)
    (hgo : ∀ a' w' σ', Holds c.g c.N σ' a' w' → (j < m → ∀ q ∈ Ls, q ∈ σ'.L) → W σ' → Nx a' w') : wpOpIn (Fw c.r) c.n c.P ops (liftO c K) j Nx a w := by
  obtain ⟨o, ho, hW⟩ := h
  unfold wpOpIn
  simp only [ho]
  rcases hW with ⟨hg, hW⟩ | ⟨⟨jj, want, og, dg, b, hg, hj, hdg, hb, hcase⟩, hd, h2, h3⟩
  · have hw : Region.wanted o (yielded ops a.tmps) = true := by
      rcases hg with hg | ⟨jj, want, og, dg, hg, hj, hdg, hb⟩
      · simp [Region.wanted, hg]
      · rw [wanted_yes ha hg hj hdg hb]; simp
    simp only [hw, if_true]
    exact Oper.wpIn_mono (fun a' w' ⟨σ', h1, h2, h3⟩ => hgo a' w' σ' h1 h2 h3) (hW a w ha)
  · have hw : Region.wanted o (yielded ops a.tmps) = false := by
      rcases hcase with rfl | rfl
      · rw [wanted_yes ha hg hj hdg hb]; cases want <;> rfl
      · exact wanted_undef ha hg hj hdg hb
    simp only [hw, Bool.false_eq_true, if_false]
    exact ⟨fun _ _ => trivial, hgo _ _ _ (ha.put hd undef) (by cases o.dst <;> exact h2) h3⟩
theorem parEach_spec {M : T Nat} {m : Nat} {listed : Array Bool} : ∀ {l : List (Nat × List Nat)} {E : List Nat}, parEach ops M m listed E l = true → ∀ {x : Nat} {ds : List Nat}, (x, ds) ∈ l → x < m ∧ listed.getD x true = false ∧ x ∉ E ∧ (∀ y ∈ ds, y ∈ E ∨ y ∈ l.map Prod.fst) ∧ (∀ y ∈ ds, bitOf M x y = true)
  | [], _, _, _, _, h => by cases h
  | (x0, d0) :: r, E, h, x, ds, hm => by
    simp only [parEach] at h
    split at h
    · rename_i o ho
      simp only [Bool.and_eq_true, Nat.blt_eq, Bool.not_eq_true', List.all_eq_true] at h
      obtain ⟨⟨⟨⟨⟨h1, h2⟩, h3⟩, h4⟩, h5⟩, h6⟩ := h
      rcases List.mem_cons.1 hm with e | hm
      · cases e
        exact ⟨h1, h2, memB_no h3, fun y hy => .inl (memB_ok (h4 y hy).1), fun y hy => (h4 y hy).2⟩
      · obtain ⟨g1, g2, g3, g4, g5⟩ := parEach_spec h6 hm
        simp only [List.mem_cons, not_or] at g3
        refine ⟨g1, g2, g3.2, fun y hy => ?_, g5⟩
        rcases g4 y hy with hy | hy
        · rcases List.mem_cons.1 hy with rfl | hy
          · exact .inr (by simp)
          · exact .inl hy
        · exact .inr (by simp only [List.map_cons, List.mem_cons]; exact .inr hy)
    · cases h
theorem parEach_next {M : T Nat} {m : Nat} {listed : Array Bool} {A : Nat → Bool} : ∀ {l : List (Nat × List Nat)} {E : List Nat}, parEach ops M m listed E l = true → (∀ x ∈ E, A x = true) → (∃ x ∈ l.map Prod.fst, A x = false) → ∃ x o, x ∈ l.map Prod.fst ∧ A x = false ∧ ops[x]? = some o ∧ ∀ e ∈ o.after, Region.binds .any e = true → listed.getD e.on false = true ∨ A e.on = true
  | [], _, _, _, ⟨x, h, _⟩ => by cases h
  | (x0, d0) :: r, E, h, hE, hx => by
    simp only [parEach] at h
    split at h
    · rename_i o ho
      simp only [Bool.and_eq_true, Nat.blt_eq, Bool.not_eq_true', List.all_eq_true] at h
      obtain ⟨⟨⟨⟨⟨h1, h2⟩, h3⟩, h4⟩, h5⟩, h6⟩ := h
      cases hA : A x0 with
      | false =>
        refine ⟨x0, o, by simp, hA, ho, fun e he hb => ?_⟩
        rw [← Array.all_toList, List.all_eq_true] at h5
        have := h5 e (by simpa using he)
        simp only [hb, Bool.not_true, Bool.false_or, Bool.or_eq_true] at this
        rcases this with h | h
        · exact .inl h
        · exact .inr (hE _ (memB_ok h))
      | true =>
        obtain ⟨x, o', g1, g2, g3, g4⟩ := parEach_next h6 (A := A) (fun x hx => by
          rcases List.mem_cons.1 hx with rfl | hx
          · exact hA
          · exact hE x hx) (by
          obtain ⟨x, hx, hAx⟩ := hx
          simp only [List.map_cons, List.mem_cons] at hx
          rcases hx with rfl | hx
          · rw [hA] at hAx; cases hAx
          · exact ⟨x, hx, hAx⟩)
        exact ⟨x, o', by simp only [List.map_cons, List.mem_cons]; exact .inr g1, g2, g3, g4⟩
    · cases h
theorem bitOf_reach {x y : Nat} (h : bitOf (maskL ops.toList 0 .e) x y = true) : WaitsOn ops.toList x y := by
  unfold bitOf at h
  split at h
  · rename_i n hn
    exact maskL_ok (ops := ops.toList) ops.toList 0 .e (fun i o h => by simpa using h) (fun j n h => by cases h) x n hn y h
  · cases h
theorem getD_of_size {listed : Array Bool} {z : Nat} (h : z < listed.size) (d : Bool) : listed.getD z d = listed[z]'h := by simp [h]
def ListedA (listed listed' : Array Bool) (A : Nat → Bool) : Prop := listed'.size = listed.size ∧ ∀ z, z < listed.size → listed'.getD z false = (listed.getD z false || A z)
theorem listAll_spec : ∀ (l : List (Nat × List Nat)) (listed : Array Bool), (listAll l listed).size = listed.size ∧ ∀ z, z < listed.size → (listAll l listed).getD z false = (listed.getD z false || memB z (l.map Prod.fst))
  | [], listed => ⟨rfl, fun z _ => by simp [listAll, memB]⟩
  | x :: r, listed => by
    obtain ⟨h1, h2⟩ := listAll_spec r (listed.setIfInBounds x.1 true)
    simp only [Array.size_setIfInBounds] at h1 h2
    refine ⟨h1, fun z hz => ?_⟩
    show (listAll r (listed.setIfInBounds x.1 true)).getD z false = _
    rw [h2 z hz]
    simp only [List.map_cons, memB]
    by_cases e : x.1 = z
    · subst e
      simp [hz]
    · have : Nat.beq x.1 z = false := Bool.eq_false_iff.2 fun h => e (Nat.eq_of_beq_eq_true h)
      simp [this, Array.getElem?_setIfInBounds_ne e]
theorem array_ext_getD {a b : Array Bool} (hs : a.size = b.size) (h : ∀ z, z < b.size → a.getD z false = b.getD z false) : a = b := by
  apply Array.ext hs
  intro i h1 h2
  have := h i h2
  rwa [getD_of_size h1, getD_of_size h2] at this
theorem par_any {K : Exit → St → Prop} {Ls L0 : List (Nat × Obj)} {m : Nat} {ms : List Nat} (hn : (Ls.map Prod.fst).Nodup) {l : List (Nat × List Nat)} {listed : Array Bool} (hl : parOk ops m listed l = true) (hsz : listed.size = ops.size) (hms : ∀ x ∈ l.map Prod.fst, x ∈ ms) {I : (Nat → Bool) → St → Prop}
    (hstep : ∀ A σ', I A σ' → ∀ x ds, (x, ds) ∈ l → A x = false → (∀ y ∈ ds, A y = true) → Must c ops K Ls m x (fun σ'' => I (fun z => z == x || A z) σ'') σ') {fuel : Nat}
    (hend : ∀ A σ', I A σ' → (∀ x ∈ l.map Prod.fst, A x = true) → ∀ a w, Holds c.g c.N σ' a w → Mem c.g Ls w → Closed ops (listAll l listed) → AnyK c ops K Ls L0 m ms fuel (listAll l listed) a w) :
    ∀ (k : Nat) (A : Nat → Bool) (listed' : Array Bool) (σ' : St), (∀ x, A x = true → x ∈ l.map Prod.fst) → ((l.map Prod.fst).filter fun x => !A x).length = k → ListedA listed listed' A → Closed ops listed' → I A σ' → ∀ a w, Holds c.g c.N σ' a w → Mem c.g Ls w → AnyK c ops K Ls L0 m ms (k + fuel) listed' a w := by
  simp only [parOk, Bool.and_eq_true, List.all_eq_true, List.mem_range] at hl
  obtain ⟨⟨_, hEach⟩, hRest⟩ := hl
  intro k
  induction k with
  | zero =>
    intro A listed' σ' hA hk hL hC hI a w ha hm
    have hall : ∀ x ∈ l.map Prod.fst, A x = true := fun x hx => by
      cases hAx : A x with
      | true => rfl
      | false =>
        have : x ∈ (l.map Prod.fst).filter fun x => !A x := List.mem_filter.2 ⟨hx, by simp [hAx]⟩
        rw [List.length_eq_zero_iff.1 hk] at this; cases this
    have e : listed' = listAll l listed := by
      obtain ⟨g1, g2⟩ := listAll_spec l listed
      apply array_ext_getD (hL.1.trans g1.symm)
      intro z hz
      rw [g1] at hz
      rw [hL.2 z hz, g2 z hz]
      congr 1
      cases hAz : A z with
      | true =>
        cases hb : memB z (l.map Prod.fst) with
        | true => rfl
        | false => exact absurd (hA z hAz) (memB_no hb)
      | false =>
        cases hb : memB z (l.map Prod.fst) with
        | false => rfl
        | true => rw [hall z (memB_ok hb)] at hAz; cases hAz
    subst e
    rw [Nat.zero_add]
    exact hend A σ' hI hall a w ha hm hC
  | succ k ih =>
    intro A listed' σ' hA hk hL hC hI a w ha hm
    have un : ∀ {z : Nat}, listed.getD z true = false → z < listed.size ∧ listed.getD z false = false := fun {z} h => by
      rcases Nat.lt_or_ge z listed.size with h' | h'
      · refine ⟨h', ?_⟩
        rw [getD_of_size h'] at h ⊢; exact h
      · simp [Array.getElem?_eq_none h'] at h
    rw [show k + 1 + fuel = (k + fuel) + 1 by omega]
    refine ⟨fun h0 => ?_, fun i hi => ?_⟩
    · exfalso
      have hex : ∃ x ∈ l.map Prod.fst, A x = false := by
        obtain ⟨x, hx⟩ := List.exists_mem_of_length_pos (l := (l.map Prod.fst).filter fun x => !A x) (by omega)
        obtain ⟨h1, h2⟩ := List.mem_filter.1 hx
        exact ⟨x, h1, by simpa using h2⟩
      obtain ⟨x, o, g1, g2, g3, g4⟩ := parEach_next (A := A) hEach (fun x hx => by cases hx) hex
      obtain ⟨⟨x', ds⟩, hq, rfl⟩ := List.mem_map.1 g1
      obtain ⟨q1, q2, _, _, _⟩ := parEach_spec hEach hq
      obtain ⟨u1, u2⟩ := un q2
      have : x' ∈ Region.ready .any ops listed' := mem_ready.2 ⟨by
        rw [getD_of_size (by rw [hL.1]; exact u1)]
        have := hL.2 x' u1
        rw [u2, g2] at this
        rw [getD_of_size (by rw [hL.1]; exact u1)] at this
        exact this, o, g3, fun e he hb => by
        rcases g4 e he hb with h | h
        · rcases Nat.lt_or_ge e.on listed.size with h' | h'
          · rw [hL.2 _ h', h]; rfl
          · simp [Array.getElem?_eq_none h'] at h
        · obtain ⟨⟨y, ds'⟩, hy, rfl⟩ := List.mem_map.1 (hA _ h)
          rename_i hye
          obtain ⟨_, w2, _, _, _⟩ := parEach_spec hEach hy
          rw [hL.2 _ (un w2).1, h]; simp⟩
      rw [h0] at this; cases this
    · obtain ⟨hun, oi, hoi, hall⟩ := mem_ready.1 hi
      have hisz : i < ops.size := (Array.getElem?_eq_some_iff.1 hoi).1
      have hil : i < listed.size := by rw [hsz]; exact hisz
      have hun' : listed'.getD i false = false := by
        rw [getD_of_size (by rw [hL.1]; exact hil)] at hun ⊢; exact hun
      have h2 := hL.2 i hil
      rw [hun'] at h2
      have h2 := h2.symm
      simp only [Bool.or_eq_false_iff] at h2
      obtain ⟨h3, hAi⟩ := h2
      have done : ∀ {y : Nat}, WaitsOn ops.toList i y → listed'.getD y false = true := fun {y} hr => hC.reach hr fun o ho e he hb => by rw [hoi] at ho; cases ho; exact hall e he hb
      have doneA : ∀ {y : Nat}, y ∈ l.map Prod.fst → WaitsOn ops.toList i y → A y = true := fun {y} hy hr => by
        obtain ⟨⟨y', ds'⟩, hq, rfl⟩ := List.mem_map.1 hy
        obtain ⟨_, w2, _, _, _⟩ := parEach_spec hEach hq
        have := done hr
        rw [hL.2 _ (un w2).1, (un w2).2] at this
        simpa using this
      have him : i ∈ l.map Prod.fst := by
        have := hRest i hisz
        simp only [Bool.or_eq_true, List.all_eq_true] at this
        rcases this with (h | h) | h
        · rw [getD_of_size hil] at h h3; rw [h3] at h; cases h
        · exact memB_ok h
        · exfalso
          have : ((l.map Prod.fst).filter fun x => !A x) = [] := by
            rw [List.filter_eq_nil_iff]
            intro y hy
            obtain ⟨q, hq, rfl⟩ := List.mem_map.1 hy
            have := doneA hy (bitOf_reach (h q hq))
            simp [this]
          rw [this] at hk; cases hk
      obtain ⟨⟨i', ds⟩, hq, rfl⟩ := List.mem_map.1 him
      obtain ⟨q1, q2, _, q4, q5⟩ := parEach_spec hEach hq
      have hds : ∀ y ∈ ds, A y = true := fun y hy => doneA (by
        rcases q4 y hy with h | h
        · cases h
        · exact h) (bitOf_reach (q5 y hy))
      refine Must.stepG (hstep A σ' hI i' ds hq hAi hds) a w ha fun a' w' σ'' h1 h2 h3 => ?_
      have hmem : Mem c.g Ls w' := h1.mem.sub hn (h2 q1)
      have hnc : ¬ Clean ms (listed'.setIfInBounds i' true) := fun h => by
        have h1 := h i' (hms _ him)
        rw [getD_of_size (by rw [Array.size_setIfInBounds, hL.1]; exact hil)] at h1
        simp at h1
      refine ⟨⟨fun _ => hmem, fun h => absurd h hnc⟩, ih (fun z => z == i' || A z) _ σ'' (fun x hx => ?_) ?_ ⟨by rw [Array.size_setIfInBounds]; exact hL.1, fun z hz => ?_⟩ (hC.set hi) h3 a' w' h1 hmem⟩
      · simp only [Bool.or_eq_true, beq_iff_eq] at hx
        rcases hx with rfl | hx
        · exact him
        · exact hA x hx
      · have nd : (l.map Prod.fst).Nodup := by
          have gen : ∀ (l : List (Nat × List Nat)) (E : List Nat), parEach ops (maskL ops.toList 0 .e) m listed E l = true → (l.map Prod.fst).Nodup := by
            intro l
            induction l with
            | nil => intro E _; simp
            | cons x r ihl =>
              intro E h
              have h' := h
              obtain ⟨x0, d0⟩ := x
              simp only [parEach] at h
              split at h
              · simp only [Bool.and_eq_true] at h
                simp only [List.map_cons, List.nodup_cons]
                refine ⟨fun hx => ?_, ihl _ h.2⟩
                obtain ⟨⟨y, ds'⟩, hy, e⟩ := List.mem_map.1 hx
                obtain ⟨_, _, w3, _, _⟩ := parEach_spec h.2 hy
                have e : y = x0 := e
                exact w3 (by rw [e]; exact List.mem_cons_self)
              · cases h
          exact gen l [] hEach
        have cnt : ∀ (L : List Nat), L.Nodup → i' ∈ L → (L.filter fun x => !A x).length = (L.filter fun x => !(x == i' || A x)).length + 1 := by
          intro L
          induction L with
          | nil => intro _ h; cases h
          | cons x r ihL =>
            intro hn hmem
            simp only [List.nodup_cons] at hn
            by_cases e : x = i'
            · subst e
              have hr : ∀ y ∈ r, (!(y == x || A y)) = !A y := fun y hy => by
                have : y ≠ x := fun e => hn.1 (e ▸ hy)
                simp [this]
              rw [List.filter_cons_of_pos (by simp [hAi]), List.filter_cons_of_neg (by simp), List.length_cons, List.filter_congr hr]
            · have hm' : i' ∈ r := by
                rcases List.mem_cons.1 hmem with h | h
                · exact absurd h.symm e
                · exact h
              have := ihL hn.2 hm'
              cases hAx : A x with
              | true => rw [List.filter_cons_of_neg (by simp [hAx]), List.filter_cons_of_neg (by simp [hAx])]; exact this
              | false => rw [List.filter_cons_of_pos (by simp [hAx]), List.filter_cons_of_pos (by simp [hAx, e]), List.length_cons, List.length_cons, this]
        have := cnt _ nd him
        omega
      · by_cases e : i' = z
        · subst e
          rw [getD_of_size (by rw [Array.size_setIfInBounds, hL.1]; exact hz)]
          simp
        · have := hL.2 z hz
          have e2 : (z == i') = false := by simpa using Ne.symm e
          simp only [e2, Bool.false_or]
          rw [← this]
          simp [Array.getElem?_setIfInBounds_ne e]
theorem WS_any {K : Exit → St → Prop} {Ls L0 : List (Nat × Obj)} {m : Nat} {ms : List Nat} (hs : Region.noSelect ops = true) (hlate : lateT ops.toList m = true) (hn : (Ls.map Prod.fst).Nodup) (hsub : ∀ w, Mem c.g L0 w → Mem c.g Ls w) :
    ∀ (p : Plan) (fresh : Bool) (fuel : Nat) (listed : Array Bool) (σ : St), (∀ j ∈ p.musts, j ∈ ms) → calmsOk ms p = true → (fresh = true → Clean ms listed) → Closed ops listed → listed.size = ops.size → planOk ops m p fuel listed = true → WS c ops K Ls L0 m ms fresh p σ → ∀ a w, Holds c.g c.N σ a w → (p.calms = true → Mem c.g Ls w) → (Clean ms listed → Mem c.g L0 w) → AnyK c ops K Ls L0 m ms fuel listed a w := by
  intro p
  induction p with
  | done =>
    intro fresh fuel listed σ _ _ _ _ _ hp h a w ha _ _
    simp only [planOk, Bool.and_eq_true, List.isEmpty_iff] at hp
    obtain ⟨hp, hf⟩ := hp
    obtain rfl := Nat.eq_of_beq_eq_true hf
    exact ⟨hp, σ, ha, h⟩
  | calm i p ih =>
    intro fresh fuel listed σ hms hcm hfr hclo hsz hp h a w ha hm hC
    cases fuel with
    | zero => cases hp
    | succ fuel =>
      simp only [planOk, Bool.and_eq_true, Nat.blt_eq] at hp
      obtain ⟨⟨⟨him, hf⟩, hr⟩, hp⟩ := hp
      simp only [calmsOk, Bool.and_eq_true, Bool.not_eq_true'] at hcm
      have hims : i ∉ ms := fun hx => by
        have := List.contains_iff_mem.2 hx
        rw [hcm.1] at this; cases this
      obtain ⟨o, v, X, ho, hd, hX, hq, hrest⟩ := h
      have hmem : Mem c.g Ls w := hm rfl
      have hcalm : Calm c ops X o v a := by
        rcases hq with ⟨hq, hg⟩ | ⟨j, want, og, dg, b, hg, hj, hdg, hb, hcase⟩
        · exact ⟨hq.1, .inl ⟨by simp [Region.wanted, hg], fun w hw => hq.2 a.eval (fun x u hu => ha.ev hu) w hw⟩⟩
        · have hy : ∀ b', b = .bool b' → Region.wanted o (yielded ops a.tmps) = (b' == want) := fun b' e => by
            subst e; exact wanted_yes ha hg hj hdg hb
          rcases hcase with ⟨hb', hq⟩ | ⟨hb', rfl, hnd⟩
          · exact ⟨hq.1, .inl ⟨by rw [hy _ hb']; simp, fun w hw => hq.2 a.eval (fun x u hu => ha.ev hu) w hw⟩⟩
          · refine ⟨hnd, .inr ⟨?_, rfl⟩⟩
            rcases hb' with hb' | hb'
            · rw [hy _ hb']; cases want <;> rfl
            · subst hb'; exact wanted_undef ha hg hj hdg hb
      refine AnyK.first (X := X) ho (Region.noSelect_spec hs) him hlate hims (hX.imp id fun h => ⟨h.1, h.2.1⟩) hsub fuel listed a w (Region.free_spec ho hf) hclo (by simpa using hr) hcalm hmem (hX.imp id fun h => hfr h.2.2) hC
        (ih fresh fuel _ _ hms hcm.2 (fun h => (hfr h).set hims) (hclo.set (by simpa using hr)) (by rw [Array.size_setIfInBounds]; exact hsz) hp hrest _ w (ha.put hd v) (fun _ => hmem) (fun h => hC h.back))
  | must i p ih =>
    intro fresh fuel listed σ hms hcm hfr hclo hsz hp h a w ha hm hC
    cases fuel with
    | zero => cases hp
    | succ fuel =>
      simp only [planOk, Bool.and_eq_true, beq_iff_eq] at hp
      obtain ⟨hr, hp⟩ := hp
      refine ⟨fun h0 => (by rw [hr] at h0; cases h0), fun j hj => ?_⟩
      have hj' := hj
      rw [hr] at hj
      obtain rfl := List.mem_singleton.1 hj
      exact Must.stepK hlate hn hclo hj' (hms j List.mem_cons_self) (fun σ' h' a' w' ha' hm' hC' => ih false fuel _ σ' (fun k hk => hms k (List.mem_cons_of_mem _ hk)) hcm (fun h => by cases h) (hclo.set hj') (by rw [Array.size_setIfInBounds]; exact hsz) hp h' a' w' ha' hm' hC') hp h a w ha
  | either i p j q ihp ihq =>
    intro fresh fuel listed σ hms hcm hfr hclo hsz hp h a w ha hm hC
    cases fuel with
    | zero => cases hp
    | succ fuel =>
      simp only [planOk, Bool.and_eq_true, beq_iff_eq] at hp
      obtain ⟨⟨hr, hp⟩, hq⟩ := hp
      simp only [calmsOk, Bool.and_eq_true] at hcm
      refine ⟨fun h0 => (by rw [hr] at h0; cases h0), fun k hk => ?_⟩
      have hk' := hk
      rw [hr] at hk
      rcases List.mem_cons.1 hk with rfl | hk
      · exact Must.stepK hlate hn hclo hk' (hms k List.mem_cons_self) (fun σ' h' a' w' ha' hm' hC' => ihp false fuel _ σ' (fun x hx => hms x (by simp [Plan.musts, hx])) hcm.1 (fun h => by cases h) (hclo.set hk') (by rw [Array.size_setIfInBounds]; exact hsz) hp h' a' w' ha' hm' hC') hp h.1 a w ha
      · obtain rfl := List.mem_singleton.1 hk
        exact Must.stepK hlate hn hclo hk' (hms k (by simp [Plan.musts])) (fun σ' h' a' w' ha' hm' hC' => ihq false fuel _ σ' (fun x hx => hms x (by simp [Plan.musts, hx])) hcm.2 (fun h => by cases h) (hclo.set hk') (by rw [Array.size_setIfInBounds]; exact hsz) hq h' a' w' ha' hm' hC') hq h.2 a w ha
  | par l p ih =>
    intro fresh fuel listed σ hms hcm hfr hclo hsz hp h a w ha hm hC
    simp only [planOk, Bool.and_eq_true] at hp
    obtain ⟨⟨hl, hle⟩, hp⟩ := hp
    have hle : l.length ≤ fuel := Nat.le_of_ble_eq_true hle
    obtain ⟨I, h0, hstep, hend⟩ := h
    have h1 := par_any (L0 := L0) (fuel := Nat.sub fuel l.length) hn hl hsz (fun x hx => hms x (List.mem_append_left _ hx)) hstep (fun A σ' hI hall a w ha hm hC => ih false _ _ σ' (fun x hx => hms x (List.mem_append_right _ hx)) hcm (fun h => by cases h) hC (by rw [(listAll_spec l listed).1]; exact hsz) hp (hend A σ' hI hall) a w ha (fun _ => hm) (fun h => ?_)) l.length (fun _ => false) listed σ (fun x hx => by cases hx) (by rw [List.filter_eq_self.2 (by simp)]; simp) ⟨rfl, fun z _ => by simp⟩ hclo h0 a w ha (hm rfl)
    · have e : l.length + Nat.sub fuel l.length = fuel := by
        show l.length + (fuel - l.length) = fuel
        omega
      rwa [e] at h1
    · exfalso
      simp only [parOk, Bool.and_eq_true] at hl
      obtain ⟨⟨g1, g2⟩, _⟩ := hl
      cases l with
      | nil => cases g1
      | cons q r =>
        obtain ⟨x, ds⟩ := q
        obtain ⟨_, w2, _, _, _⟩ := parEach_spec g2 (x := x) (ds := ds) (by simp)
        have hx := h x (hms x (List.mem_append_left _ (by simp)))
        have hlt : x < listed.size := by
          rcases Nat.lt_or_ge x listed.size with h' | h'
          · exact h'
          · simp [Array.getElem?_eq_none h'] at w2
        rw [(listAll_spec ((x, ds) :: r) listed).2 x hlt] at hx
        simp [memB] at hx
theorem WC_drawK {K : Exit → St → Prop} {σ : St} {id : Nat} (Ls : List (Nat × Obj)) (m : Nat) (p : Plan) (hm : c.P.follows .mixedOrders = true)
    (hok : (Region.noSelect ops && lateT ops.toList m && planOk ops m p ops.size (Array.replicate ops.size false)) = true) (hcm : calmsOk p.musts p = true) (hsub : Ls.Sublist σ.L) (h : WS c ops K Ls σ.L m p.musts true p σ) : WC c (.region id ops true) K σ := fun a w ha => by
  simp only [Bool.and_eq_true] at hok
  have ha' : Holds c.g c.N σ a { w with drawn := w.drawn + 1 } := ha.mem' ha.mem.drew
  exact Go.wpIn_mono (wpIn_region_any hm (AnyK.any _ _ _ _ (WS_any hok.1.1 hok.1.2 (ha.mem.nodup.sublist (hsub.map _)) (fun w hw => hw.sublist hsub) p true _ _ σ (fun _ h => h) hcm (fun _ j _ => by
    simp [Array.getElem?_replicate]; split <;> rfl) (fun j o _ hj => by
    rw [Array.getD_eq_getD_getElem?, Array.getElem?_replicate] at hj
    split at hj <;> cases hj) (by simp) hok.2 h a _ ha' (fun _ => ha'.mem.sublist hsub) (fun _ => ha'.mem)))) fun _ _ _ hl => hl.lift
end
end Go.Proofs.Ytmdiabglbmgkkaa
namespace Go.Proofs.Ytmdiabglbmgkkaa
open Go.RowKit
inductive V where
  | int (k : IntKind) (n : Int)
  | bool (b : Bool)
  | str (s : ByteArray)
  | ptrN
  | ptr (k off : Nat)
  | slN
  | sl (k off len sz : Nat) (ex : Bool)
  | fn (f : Go.Fn) (A B : List V)
  | nilf
  | ifc (t : TypeId) (v : V)
  | nili
  | mapN
  | map (k : Nat)
  | agg (l : List V)
  | tup (l : List V)
  | yld (k : Nat)
abbrev Bs := List (Nat × Nat × Nat)
mutual
inductive RV (bs : Bs) : V → Value → Prop
  | int (k : IntKind) (n : Int) : RV bs (.int k n) (.int k n)
  | bool (b : Bool) : RV bs (.bool b) (.bool b)
  | str (s : ByteArray) : RV bs (.str s) (.string s)
  | ptrN : RV bs .ptrN (.pointer none)
  | ptr {k off b base av : Nat} (h : bs[k]? = some (b, base, av)) : RV bs (.ptr k off) (.pointer (some ⟨b, base + off, none⟩))
  | slN : RV bs .slN (.slice none 0 0)
  | sl {k off len sz b base av off' cap : Nat} {ex : Bool} (hex : ex = true → cap = len) (h : bs[k]? = some (b, base, av)) (h1 : len ≤ cap) (h2 : cap ≤ maxLen) (h3 : off' = base + off ∨ (cap = 0 ∧ off' ≤ base + av)) (h4 : off + cap * sz ≤ av) : RV bs (.sl k off len sz ex) (.slice (some ⟨b, off', none⟩) len cap)
  | fn (f : Go.Fn) {A B : List V} {A' B' : List Value} (hA : RVs bs A A') (hB : RVs bs B B') : RV bs (.fn f A B) (.func f A'.toArray B'.toArray)
  | nilf : RV bs .nilf .nilFunc
  | ifc (t : TypeId) {v : V} {v' : Value} (h : RV bs v v') : RV bs (.ifc t v) (.iface t v')
  | nili : RV bs .nili .nilIface
  | mapN : RV bs .mapN (.map none)
  | map {k b base av : Nat} (h : bs[k]? = some (b, base, av)) : RV bs (.map k) (.map (some b))
  | agg {l : List V} {l' : List Value} (h : RVs bs l l') : RV bs (.agg l) (.agg l'.toArray)
  | tup {l : List V} {l' : List Value} (h : RVs bs l l') : RV bs (.tup l) (.tuple l'.toArray)
  | yld {k b base av : Nat} (h : bs[k]? = some (b, base, av)) : RV bs (.yld k) (.func (.yield b) #[] #[])
inductive RVs (bs : Bs) : List V → List Value → Prop
  | nil : RVs bs [] []
  | cons {v : V} {v' : Value} {l : List V} {l' : List Value} (h : RV bs v v') (hl : RVs bs l l') : RVs bs (v :: l) (v' :: l')
end
theorem RVs.get {bs : Bs} : ∀ {l : List V} {l' : List Value}, RVs bs l l' → ∀ {i : Nat} {v : V}, l[i]? = some v → ∃ v', l'[i]? = some v' ∧ RV bs v v'
  | _, _, .nil, _, _, h => by simp at h
  | _, _, .cons h hl, i, v, hi => by
    cases i with
    | zero => simp at hi; subst hi; exact ⟨_, rfl, h⟩
    | succ i => simp only [List.getElem?_cons_succ] at hi ⊢; exact hl.get hi
theorem RVs.take {bs : Bs} : ∀ {l : List V} {l' : List Value}, RVs bs l l' → ∀ n, RVs bs (l.take n) (l'.take n)
  | _, _, .nil, n => by simp; exact .nil
  | _, _, .cons h hl, n => by
    cases n with
    | zero => exact .nil
    | succ n => exact .cons h (hl.take n)
theorem RVs.drop {bs : Bs} : ∀ {l : List V} {l' : List Value}, RVs bs l l' → ∀ n, RVs bs (l.drop n) (l'.drop n)
  | _, _, .nil, n => by simp; exact .nil
  | _, _, .cons h hl, n => by
    cases n with
    | zero => exact .cons h hl
    | succ n => exact hl.drop n
end Go.Proofs.Ytmdiabglbmgkkaa
namespace Go.Proofs.Ytmdiabglbmgkkaa
open Go.RowKit
noncomputable section
section
variable {P : Program}
def sizeX (P : Program) (t : TypeId) : Option Nat := match P.info? t with
  | some i => some i.size
  | none => none
theorem sizeX_ok {t n : Nat} (h : sizeX P t = some n) : TSize P t n := ⟨fun w => by
  unfold sizeX at h
  split at h
  · rename_i i hi; cases h; simp [sizeOf, typeInfo, hi]
  · cases h⟩
def aggX (P : Program) (t : TypeId) : Option Bool := match P.underlying t with
  | some (.struct _) => some true
  | some (.array _ _) => some true
  | some _ => some false
  | none => none
theorem aggX_ok {t : Nat} {b : Bool} (h : aggX P t = some b) : TAgg P t b := ⟨fun w => by
  unfold aggX at h
  split at h
  · rename_i hu; cases h; simp [isAgg, run_underlying hu]
  · rename_i hu; cases h; simp [isAgg, run_underlying hu]
  · rename_i d h1 h2 hu
    cases h
    simp only [isAgg, Sem.run_bind, run_underlying hu]
    cases d <;> first | rfl | exact absurd rfl (h1 _) | exact absurd rfl (h2 _ _)
  · cases h⟩
def fieldX (P : Program) (t i : Nat) : Option (Nat × TypeId × Nat) := match P.underlying t with
  | some (.struct fs) => match fs.toList[i]? with
    | some f => match sizeX P f.type with
      | some n => some (f.offset, f.type, n)
      | none => none
    | none => none
  | _ => none
def V.scal : V → Option Value
  | .int k n => some (.int k n)
  | .bool b => some (.bool b)
  | .str s => some (.string s)
  | _ => none
theorem V.scal_ok {bs : Bs} {v : V} {v' u : Value} (h : RV bs v v') (hs : v.scal = some u) : v' = u := by
  cases h <;> cases hs <;> rfl
def binW (P : Program) (op : BinOp) (t : TypeId) (x y : Value) : Option Value :=
  match x, y with
  | .int k a, .int k' b =>
    match op with
    | .shl => if 0 ≤ b then some (.int k (k.wrap (a * 2 ^ (min b.toNat k.bits)))) else none
    | .shr => if 0 ≤ b then some (.int k (a.fdiv (2 ^ (min b.toNat k.bits)))) else none
    | _ => if k = k' then
      match op with
      | .add => some (.int k (k.wrap (a + b)))
      | .sub => some (.int k (k.wrap (a - b)))
      | .mul => some (.int k (k.wrap (a * b)))
      | .quo => if b = 0 then none else some (.int k (k.wrap (a.tdiv b)))
      | .rem => if b = 0 then none else some (.int k (a.tmod b))
      | .and => some (.int k (k.wrap (BitVec.ofInt k.bits a &&& BitVec.ofInt k.bits b).toNat))
      | .or => some (.int k (k.wrap (BitVec.ofInt k.bits a ||| BitVec.ofInt k.bits b).toNat))
      | .xor => some (.int k (k.wrap (BitVec.ofInt k.bits a ^^^ BitVec.ofInt k.bits b).toNat))
      | .andNot => some (.int k (k.wrap (BitVec.ofInt k.bits a &&& ~~~(BitVec.ofInt k.bits b)).toNat))
      | .eql => some (.bool (a == b))
      | .neq => some (.bool (a != b))
      | .lss => some (.bool (decide (a < b)))
      | .leq => some (.bool (decide (a ≤ b)))
      | .gtr => some (.bool (decide (a > b)))
      | .geq => some (.bool (decide (a ≥ b)))
      | _ => none
      else none
  | .bool a, .bool b => match P.underlying t with
    | some .bool => match op with
      | .eql => some (.bool (a == b))
      | .neq => some (.bool (a != b))
      | _ => none
    | _ => none
  | .string a, .string b => match op with
    | .add => if ((a.size + b.size : Nat) : Int) > IntKind.i64.max then none else some (.string (a ++ b))
    | .eql => some (.bool (a.toList == b.toList))
    | .neq => some (.bool !(a.toList == b.toList))
    | .lss => some (.bool (Op.bytesLess a.toList b.toList))
    | .geq => some (.bool !(Op.bytesLess a.toList b.toList))
    | .leq => some (.bool (Op.bytesLess a.toList b.toList || a.toList == b.toList))
    | .gtr => some (.bool !(Op.bytesLess a.toList b.toList || a.toList == b.toList))
    | _ => none
  | _, _ => none
theorem binW_run {op : BinOp} {t : TypeId} {x y v : Value} (X Y : Operand) (h : binW P op t x y = some v) (w : World) : (eqGuard op t X Y x y).run P w = .ok () w ∧ (binOp op t x y).run P w = .ok v w := by
  unfold binW at h
  split at h
  · rename_i k a k' b
    split at h
    · split at h
      · rename_i hb; cases h
        simp [eqGuard, binOp, Op.shift, show ¬ b < 0 by omega]
      · cases h
    · split at h
      · rename_i hb; cases h
        simp [eqGuard, binOp, Op.shift, show ¬ b < 0 by omega]
      · cases h
    · split at h
      · rename_i h1 h2 hk
        subst hk
        split at h
        all_goals first
          | (cases h; done)
          | (cases h; simp [eqGuard, binOp, Op.intArith, Op.intCmp, Op.intBits]; done)
          | (split at h
             · cases h
             · rename_i hb; cases h; simp [eqGuard, binOp, Op.intDiv, hb])
      · cases h
  · rename_i a b
    split at h
    · rename_i hu
      split at h
      · cases h; simp [eqGuard, run_eql_bool w t a b hu]
      · cases h; simp [eqGuard, run_neq_bool w t a b hu, bne]
      · cases h
    · cases h
  · split at h
    all_goals first
      | (cases h; done)
      | (cases h; simp [eqGuard, binOp, Op.stringOp]; done)
      | (split at h
         · cases h
         · rename_i hb; cases h; rw [show IntKind.i64.max = 9223372036854775807 from rfl] at hb; simp [eqGuard, binOp, Op.stringOp]; omega)
  · cases h
end
section
variable {c : Cx} {s : List (Nat × Value)} {L : List (Nat × Obj)} {o : Oper}
theorem Qt_binW {op : BinOp} {t t' : TypeId} {x y : Operand} {a b v : Value} (ho : o.op = .binOp op t x y t') (hx : ev s x = some a) (hy : ev s y = some b) (hv : binW c.P op t a b = some v) : Qt c s L o v :=
  ⟨(fun cc => by simp [ho]), fun ρ hρ w _ => by
    obtain ⟨h1, h2⟩ := binW_run (P := c.P) (t := t) x y hv w
    simp [execOp, ho, hρ x _ hx, hρ y _ hy, h1, h2]⟩
theorem Qt_of_run {v : Value} (hd : ∀ cc, o.op ≠ .defer cc) (h : ∀ ρ : Operand → Value, (∀ x u, ev s x = some u → ρ x = u) → ∀ w, Mem c.g L w → (execOp ρ o).run c.P w = .ok (.value v) w) : Qt c s L o v := ⟨hd, h⟩
end
section
variable {c : Cx} {bs : Bs} {σs : List (Nat × Value)} {Ls : List (Nat × Obj)} {o : Oper}
def partX (P : Program) (ft off n : Nat) (l : List V) : Option V := match aggX P ft with
  | some true => some (.agg ((l.drop off).take n))
  | some false => l[off]?
  | none => none
theorem part_run {P : Program} {ft off n : Nat} {l : List V} {l' : List Value} {v : V} (h : partX P ft off n l = some v) (hn : ∀ w, (sizeOf ft).run P w = .ok n w) (hl : RVs bs l l') : ∃ v', (∀ w, (part ft l'.toArray off).run P w = .ok v' w) ∧ RV bs v v' := by
  unfold partX at h
  split at h
  · rename_i ha
    cases h
    refine ⟨.agg ((l'.drop off).take n).toArray, fun w => ?_, .agg ((hl.drop off).take n)⟩
    have := (aggX_ok ha).h w
    simp [part, this, hn]
  · rename_i ha
    obtain ⟨v', h1, h2⟩ := hl.get h
    refine ⟨v', fun w => ?_, h2⟩
    have := (aggX_ok ha).h w
    simp [part, this, h1]
  · cases h
end
end
end Go.Proofs.Ytmdiabglbmgkkaa
namespace Go.Proofs.Ytmdiabglbmgkkaa
open Go.RowKit
noncomputable section
section
variable {c : Cx} {bs : Bs} {σs : List (Nat × Value)} {Ls : List (Nat × Obj)} {o : Oper}
def nilT (P : Program) (t : TypeId) (x y : V) : Option Bool :=
  match x, y with
  | .ptrN, .ptrN => (match P.underlying t with | some (.pointer _) => some true | _ => none)
  | .ptr _ _, .ptrN => (match P.underlying t with | some (.pointer _) => some false | _ => none)
  | .slN, .slN => (match P.underlying t with | some (.slice _) => some true | _ => none)
  | .sl _ _ _ _ _, .slN => (match P.underlying t with | some (.slice _) => some false | _ => none)
  | .nilf, .nilf => (match P.underlying t with | some (.func _ _ _) => some true | _ => none)
  | .fn _ _ _, .nilf => (match P.underlying t with | some (.func _ _ _) => some false | _ => none)
  | .mapN, .mapN => (match P.underlying t with | some (.map _ _) => some true | _ => none)
  | .map _, .mapN => (match P.underlying t with | some (.map _ _) => some false | _ => none)
  | _, _ => none
def eqFs (rec : TypeId → V → V → Option Bool) (P : Program) (xs ys : List V) : List Field → Option Bool
  | [] => some true
  | f :: r => match decide (f.name = "_") with
    | true => eqFs rec P xs ys r
    | false => match sizeX P f.type with
      | some n => match partX P f.type f.offset n xs, partX P f.type f.offset n ys with
        | some a, some b => match rec f.type a b with
          | some true => eqFs rec P xs ys r
          | some false => some false
          | none => none
        | _, _ => none
      | none => none
def eqEs (rec : TypeId → V → V → Option Bool) (P : Program) (e n : Nat) (xs ys : List V) : List Nat → Option Bool
  | [] => some true
  | i :: r => match partX P e (Nat.mul i n) n xs, partX P e (Nat.mul i n) n ys with
    | some a, some b => match rec e a b with
      | some true => eqEs rec P e n xs ys r
      | some false => some false
      | none => none
    | _, _ => none
def eqX (P : Program) : Nat → TypeId → V → V → Option Bool
  | 0, _, _, _ => none
  | d + 1, t, x, y => match x, y with
    | .int k a, .int k' b => match P.underlying t, decide (k = k') with
      | some (.int _), true => some (a == b)
      | _, _ => none
    | .bool a, .bool b => match P.underlying t with
      | some .bool => some (a == b)
      | _ => none
    | .str a, .str b => match P.underlying t with
      | some .string => some (a.toList == b.toList)
      | _ => none
    | .agg xs, .agg ys => match P.underlying t with
      | some (.struct fs) => match P.stoodInHeld t with
        | false => eqFs (eqX P d) P xs ys fs.toList
        | true => none
      | some (.array n e) => match sizeX P e with
        | some sz => eqEs (eqX P d) P e sz xs ys (List.range' 0 n 1)
        | none => none
      | _ => none
    | _, _ => none
theorem eqX_ok {P : Program} : ∀ (d : Nat) {t : TypeId} {x y : V} {x' y' : Value} {b : Bool}, eqX P d t x y = some b → RV bs x x' → RV bs y y' → ∀ (q : Nat) (w : World), (Op.equalIn (d + q) t x' y').run P w = .ok b w
  | 0, _, _, _, _, _, _, h, _, _ => by cases h
  | d + 1, t, x, y, x', y', b, h, hx, hy => fun q w => by
    have ih := fun {t x y x' y' b} (h : eqX P d t x y = some b) (hx : RV bs x x') (hy : RV bs y y') (w : World) => eqX_ok d h hx hy q w
    rw [show d + 1 + q = (d + q) + 1 by omega]
    simp only [eqX] at h
    split at h
    · split at h
      · rename_i hu hk
        cases h; cases hx; cases hy
        obtain rfl := of_decide_eq_true hk
        exact run_equalIn_int w _ t _ _ _ _ hu
      · cases h
    · split at h
      · rename_i hu
        cases h; cases hx; cases hy
        exact run_equalIn_bool' w _ t _ _ hu
      · cases h
    · split at h
      · rename_i hu
        cases h; cases hx; cases hy
        exact run_equalIn_string w _ t _ _ hu
      · cases h
    · rename_i xs ys
      cases hx; cases hy
      rename_i xs' hxs ys' hys
      split at h
      · rename_i fs hu
        split at h
        · rename_i hst
          have hfo : P.fieldsOf t = fs := by simp [Program.fieldsOf, hu]
          rw [run_equalIn_struct w (d + q) t _ _ (by rw [hfo]; exact hu) hst, hfo]
          generalize fs.toList = l at h
          clear hu hfo
          induction l generalizing w with
          | nil => cases h; simp [Op.eqFields]
          | cons f r ihl =>
            simp only [eqFs] at h
            simp only [Op.eqFields]
            split at h
            · rename_i hn
              have hn := of_decide_eq_true hn
              rw [if_neg (by simp [hn])]
              exact ihl w h
            · rename_i hn
              have hn := of_decide_eq_false hn
              rw [if_pos hn]
              split at h
              · rename_i n hsz
                split at h
                · rename_i a b ha hb
                  obtain ⟨a', a1, a2⟩ := part_run ha (sizeX_ok hsz).h hxs
                  obtain ⟨b', b1, b2⟩ := part_run hb (sizeX_ok hsz).h hys
                  split at h
                  · rename_i he
                    have := ih he a2 b2 w
                    simp only [Sem.run_bind, a1, b1, Result.andThen_ok, this, Bool.not_true, Bool.false_eq_true, if_false]
                    exact ihl w h
                  · rename_i he
                    cases h
                    have := ih he a2 b2 w
                    simp [a1, b1, this]
                  · cases h
                · cases h
              · cases h
        · cases h
      · rename_i n e hu
        split at h
        · rename_i sz hsz
          rw [Op.equalIn]
          simp only [Sem.run_bind, run_underlying hu, Result.andThen_ok, (sizeX_ok hsz).h, Std.Legacy.Range.forIn_eq_forIn_range', Std.Legacy.Range.size, Nat.sub_zero, Nat.add_sub_cancel, Nat.div_one]
          generalize List.range' 0 n 1 = l at h ⊢
          clear hu
          induction l generalizing w with
          | nil => cases h; simp
          | cons i r ihl =>
            simp only [eqEs] at h
            split at h
            · rename_i a b ha hb
              obtain ⟨a', a1, a2⟩ := part_run ha (sizeX_ok hsz).h hxs
              obtain ⟨b', b1, b2⟩ := part_run hb (sizeX_ok hsz).h hys
              have a1' : ∀ w, (part e xs'.toArray (i * sz)).run P w = .ok a' w := a1
              have b1' : ∀ w, (part e ys'.toArray (i * sz)).run P w = .ok b' w := b1
              split at h
              · rename_i he
                have := ih he a2 b2 w
                simp only [List.forIn_cons, Sem.run_bind, a1', b1', Result.andThen_ok, this, Bool.not_true, Bool.false_eq_true, if_false, Sem.run_pure]
                exact ihl w h
              · rename_i he
                cases h
                have := ih he a2 b2 w
                simp [List.forIn_cons, a1', b1', this]
              · cases h
            · cases h
        · cases h
      · cases h
    · cases h
theorem run_equalIn_iface {P : Program} (w : World) (d : Nat) (t : TypeId) {ms : Array (String × TypeId)} (h : P.underlying t = some (.interface ms)) :
    (Op.equalIn (d + 1) t .nilIface .nilIface).run P w = .ok true w ∧ ∀ (u : TypeId) (v : Value), (Op.equalIn (d + 1) t (.iface u v) .nilIface).run P w = .ok false w ∧ (Op.equalIn (d + 1) t .nilIface (.iface u v)).run P w = .ok false w := by
  refine ⟨?_, fun u v => ⟨?_, ?_⟩⟩
  · simp [Op.equalIn, run_underlying h]
  · simp [Op.equalIn, run_underlying h]
  · simp [Op.equalIn, run_underlying h]
end
mutual
def V.val : V → Option Value
  | .int k n => some (.int k n)
  | .bool b => some (.bool b)
  | .str s => some (.string s)
  | .agg l => match V.valL l with
    | some l' => some (.agg l'.toArray)
    | none => none
  | _ => none
def V.valL : List V → Option (List Value)
  | [] => some []
  | v :: r => match V.val v, V.valL r with
    | some u, some l => some (u :: l)
    | _, _ => none
end
mutual
theorem V.val_ok {bs : Bs} : ∀ {v : V} {v' u : Value}, RV bs v v' → V.val v = some u → v' = u
  | _, _, _, .int _ _, h => by simp only [V.val, Option.some.injEq] at h; exact h
  | _, _, _, .bool _, h => by simp only [V.val, Option.some.injEq] at h; exact h
  | _, _, _, .str _, h => by simp only [V.val, Option.some.injEq] at h; exact h
  | _, _, _, .agg hl, h => by
    simp only [V.val] at h
    split at h
    · rename_i l' hl'
      cases h
      rw [V.valL_ok hl hl']
    · cases h
  | _, _, _, .ptrN, h => by simp [V.val] at h
  | _, _, _, .ptr _, h => by simp [V.val] at h
  | _, _, _, .slN, h => by simp [V.val] at h
  | _, _, _, .sl _ _ _ _ _ _, h => by simp [V.val] at h
  | _, _, _, .fn _ _ _, h => by simp [V.val] at h
  | _, _, _, .nilf, h => by simp [V.val] at h
  | _, _, _, .ifc _ _, h => by simp [V.val] at h
  | _, _, _, .nili, h => by simp [V.val] at h
  | _, _, _, .mapN, h => by simp [V.val] at h
  | _, _, _, .map _, h => by simp [V.val] at h
  | _, _, _, .tup _, h => by simp [V.val] at h
  | _, _, _, .yld _, h => by simp [V.val] at h
theorem V.valL_ok {bs : Bs} : ∀ {l : List V} {l' u : List Value}, RVs bs l l' → V.valL l = some u → l' = u
  | _, _, _, .nil, h => by simp only [V.valL, Option.some.injEq] at h; exact h
  | _, _, _, .cons hv hl, h => by
    simp only [V.valL] at h
    split at h
    · rename_i h1 h2
      cases h
      rw [V.val_ok hv h1, V.valL_ok hl h2]
    · cases h
end
section
variable {c : Cx} {bs : Bs} {σs : List (Nat × Value)} {Ls : List (Nat × Obj)} {o : Oper}
def keyFs (rec : TypeId → V → Bool) (P : Program) (xs : List V) : List Field → Bool
  | [] => true
  | f :: r => match decide (f.name = "_") with
    | true => keyFs rec P xs r
    | false => match sizeX P f.type with
      | some n => match partX P f.type f.offset n xs with
        | some a => match rec f.type a with
          | true => keyFs rec P xs r
          | false => false
        | none => false
      | none => false
def keyEs (rec : TypeId → V → Bool) (P : Program) (e n : Nat) (xs : List V) : List Nat → Bool
  | [] => true
  | i :: r => match partX P e (Nat.mul i n) n xs with
    | some a => match rec e a with
      | true => keyEs rec P e n xs r
      | false => false
    | none => false
def keyK (P : Program) : Nat → TypeId → V → Bool
  | 0, _, _ => false
  | d + 1, t, x => match x, P.underlying t with
    | .int _ _, some (.int _) => true
    | .str _, some .string => true
    | .bool _, some .bool => true
    | .agg xs, some (.struct fs) => keyFs (keyK P d) P xs fs.toList
    | .agg xs, some (.array n e) => match sizeX P e with
      | some sz => keyEs (keyK P d) P e sz xs (List.range' 0 n 1)
      | none => false
    | _, _ => false
theorem keyK_run {P : Program} (em : Bool) : ∀ (d : Nat) {t : TypeId} {x : V} {x' : Value}, keyK P d t x = true → RV bs x x' → ∀ (q : Nat) (w : World), (Instr.checkKey em (d + q) t x').run P w = .ok () w
  | 0, _, _, _, h, _, _, _ => by cases h
  | d + 1, t, x, x', h, hx, q, w => by
    have ih := fun {t x x'} (h : keyK P d t x = true) (hx : RV bs x x') (w : World) => keyK_run em d h hx q w
    rw [show d + 1 + q = (d + q) + 1 by omega]
    simp only [keyK] at h
    split at h
    · rename_i hu; cases hx; rw [Instr.checkKey]; simp [run_underlying hu]
    · rename_i hu; cases hx; rw [Instr.checkKey]; simp [run_underlying hu]
    · rename_i hu; cases hx; rw [Instr.checkKey]; simp [run_underlying hu]
    · rename_i xs fs hu
      cases hx
      rename_i xs' hxs
      rw [Instr.checkKey]
      simp only [Sem.run_bind, run_underlying hu, Result.andThen_ok]
      rw [← Array.forIn_toList]
      generalize fs.toList = l at h
      clear hu
      induction l generalizing w with
      | nil => simp
      | cons f r ihl =>
        simp only [keyFs] at h
        split at h
        · rename_i hn
          have hn := of_decide_eq_true hn
          simp only [List.forIn_cons, Sem.run_bind, hn, ne_eq, not_true_eq_false, if_false, Sem.run_pure, Result.andThen_ok]
          exact ihl w h
        · rename_i hn
          have hn := of_decide_eq_false hn
          split at h
          · rename_i n hsz
            split at h
            · rename_i a ha
              obtain ⟨a', a1, a2⟩ := part_run ha (sizeX_ok hsz).h hxs
              split at h
              · rename_i hk
                have := ih hk a2 w
                simp only [List.forIn_cons, Sem.run_bind, ne_eq, hn, not_false_eq_true, if_true, a1, Result.andThen_ok, this, Sem.run_pure]
                exact ihl w h
              · cases h
            · cases h
          · cases h
    · rename_i xs n e hu
      split at h
      · rename_i sz hsz
        cases hx
        rename_i xs' hxs
        rw [Instr.checkKey]
        simp only [Sem.run_bind, run_underlying hu, Result.andThen_ok, Std.Legacy.Range.forIn_eq_forIn_range', Std.Legacy.Range.size, Nat.sub_zero, Nat.add_sub_cancel, Nat.div_one]
        generalize List.range' 0 n 1 = l at h ⊢
        clear hu
        induction l generalizing w with
        | nil => simp
        | cons i r ihl =>
          simp only [keyEs] at h
          split at h
          · rename_i a ha
            obtain ⟨a', a1, a2⟩ := part_run ha (sizeX_ok hsz).h hxs
            have a1' : ∀ w, (part e xs'.toArray (i * sz)).run P w = .ok a' w := a1
            split at h
            · rename_i hk
              have := ih hk a2 w
              simp only [List.forIn_cons, Sem.run_bind, (sizeX_ok hsz).h, a1', Result.andThen_ok, this, Sem.run_pure]
              exact ihl w h
            · cases h
          · cases h
      · cases h
    · cases h
def keyX (P : Program) (kt : TypeId) (d : TypeDesc) (k : V) : Bool := match d, k with
  | .int _, .int _ _ => true
  | .string, .str _ => true
  | .bool, .bool _ => true
  | .struct _, .agg _ => keyK P 8 kt k
  | .array _ _, .agg _ => keyK P 8 kt k
  | _, _ => false
theorem keyX_run {P : Program} {kt : TypeId} {d : TypeDesc} {k : V} {k' : Value} (hd : P.underlying kt = some d) (h : keyX P kt d k = true) (hk : RV bs k k') (e : Bool) (w : World) : (Instr.checkKey e 10000 kt k').run P w = .ok () w := by
  unfold keyX at h
  split at h <;> first | (cases h; done) | skip
  · cases hk; rw [Instr.checkKey]; simp [run_underlying hd]
  · cases hk; rw [Instr.checkKey]; simp [run_underlying hd]
  · cases hk; rw [Instr.checkKey]; simp [run_underlying hd]
  · exact keyK_run e 8 h hk 9992 w
  · exact keyK_run e 8 h hk 9992 w
def sameX (P : Program) (kt : TypeId) (d : TypeDesc) (a b : V) : Option Bool := match d, a, b with
  | .struct _, .agg _, .agg _ => sameG a b
  | .array _ _, .agg _, .agg _ => sameG a b
  | _, _, _ => match a.scal, b.scal with
    | some x, some y => Instr.sameNow d x y
    | _, _ => none
where sameG (a b : V) : Option Bool := match eqX P 8 kt a b with
  | some true => match a.val, b.val with
    | some x, some y => match Instr.sameBits 10000 y x with
      | true => some true
      | false => none
    | _, _ => none
  | r => r
def nowK : TypeDesc → Bool
  | .struct _ => false
  | .array _ _ => false
  | _ => true
theorem sameX_now {P : Program} {kt : TypeId} {d : TypeDesc} {a b : V} {a' b' : Value} {r : Bool} (hn : nowK d = true) (h : sameX P kt d a b = some r) (ha : RV bs a a') (hb : RV bs b b') : Instr.sameNow d a' b' = some r := by
  unfold sameX at h
  split at h
  · cases hn
  · cases hn
  · split at h
    · rename_i x y hx hy
      rw [V.scal_ok ha hx, V.scal_ok hb hy]; exact h
    · cases h
theorem sameNow_ask {d : TypeDesc} (hn : nowK d = false) (a b : Value) : Instr.sameNow d a b = none := by
  cases d <;> first | (cases hn; done) | (cases a <;> rfl)
theorem sameX_ask {P : Program} {kt : TypeId} {d : TypeDesc} {a b : V} {a' b' : Value} {r : Bool} (hn : nowK d = false) (h : sameX P kt d a b = some r) (ha : RV bs a a') (hb : RV bs b b') : (∀ w, (Op.equal kt a' b').run P w = .ok r w) ∧ (r = true → Instr.sameBits 10000 b' a' = true) := by
  have g : sameX.sameG P kt a b = some r := by
    unfold sameX at h
    split at h
    · exact h
    · exact h
    · split at h
      · rw [sameNow_ask hn] at h; cases h
      · cases h
  unfold sameX.sameG at g
  split at g
  · rename_i he
    split at g
    · rename_i x y hx hy
      split at g
      · rename_i hsb
        cases g
        refine ⟨fun w => eqX_ok 8 he ha hb (Op.maxDepth - 8) w, fun _ => ?_⟩
        rw [V.val_ok ha hx, V.val_ok hb hy]; exact hsb
      · cases g
    · cases g
  · rename_i hne
    cases r with
    | true => exact absurd g hne
    | false => exact ⟨fun w => eqX_ok 8 g ha hb (Op.maxDepth - 8) w, fun e => by cases e⟩
theorem keyThatStays_now {P : Program} {kt : TypeId} {d : TypeDesc} {k p : V} {k' p' : Value} (hn : nowK d = true) (hs : sameX P kt d k p = some true) (hk : RV bs k k') (hp : RV bs p p') (w : World) : (Instr.keyThatStays p' k').run P w = .ok k' w := by
  have hs := sameX_now hn hs hk hp
  unfold Instr.sameNow at hs
  split at hs
  · split at hs
    · rename_i hkk
      subst hkk
      simp at hs
      subst hs
      simp [Instr.keyThatStays, Instr.sameBits]
    · cases hs
  · simp only [Option.some.injEq] at hs
    have hs2 := (Go.MapKept.bytes_beq _ _).1 hs
    subst hs2
    simp [Instr.keyThatStays, Instr.sameBits, hs]
  · simp at hs
    subst hs
    simp [Instr.keyThatStays, Instr.sameBits]
  · cases hs
theorem keyThatStays_run {P : Program} {kt : TypeId} {d : TypeDesc} {k p : V} {k' p' : Value} (hs : sameX P kt d k p = some true) (hk : RV bs k k') (hp : RV bs p p') (w : World) : (Instr.keyThatStays p' k').run P w = .ok k' w := by
  cases hn : nowK d with
  | true => exact keyThatStays_now hn hs hk hp w
  | false => simp [Instr.keyThatStays, (sameX_ask hn hs hk hp).2 rfl]
def Fnd (P : Program) (kt : TypeId) (d : TypeDesc) (k' : Value) (es : List MapEntry) (i : Nat) (a : Option (Nat × Value)) : Prop :=
  (nowK d = true ∧ Instr.findNow d k' es i = some a) ∨ (nowK d = false ∧ ∀ w, (Instr.findAsking kt k' es i).run P w = .ok a w)
theorem Fnd_nil {P : Program} {kt : TypeId} (d : TypeDesc) (k' : Value) (i : Nat) : Fnd P kt d k' [] i none := by
  cases hn : nowK d with
  | true => exact .inl ⟨hn, rfl⟩
  | false => exact .inr ⟨hn, fun w => rfl⟩
theorem Fnd_hit {P : Program} {kt : TypeId} {d : TypeDesc} {k p : V} {k' : Value} {e : MapEntry} (hs : sameX P kt d k p = some true) (hk : RV bs k k') (hp : RV bs p e.key) (es : List MapEntry) (i : Nat) : Fnd P kt d k' (e :: es) i (some (i, e.val)) := by
  cases hn : nowK d with
  | true => exact .inl ⟨hn, by simp [Instr.findNow, sameX_now hn hs hk hp]⟩
  | false => exact .inr ⟨hn, fun w => by simp [Instr.findAsking, (sameX_ask hn hs hk hp).1 w]⟩
theorem Fnd_skip {P : Program} {kt : TypeId} {d : TypeDesc} {k p : V} {k' : Value} {e : MapEntry} (hs : sameX P kt d k p = some false) (hk : RV bs k k') (hp : RV bs p e.key) {es : List MapEntry} {i : Nat} {a : Option (Nat × Value)} (h : Fnd P kt d k' es (i + 1) a) : Fnd P kt d k' (e :: es) i a := by
  rcases h with ⟨hn, h⟩ | ⟨hn, h⟩
  · exact .inl ⟨hn, by simp [Instr.findNow, sameX_now hn hs hk hp, h]⟩
  · exact .inr ⟨hn, fun w => by simp [Instr.findAsking, (sameX_ask hn hs hk hp).1 w, h w]⟩
theorem Fnd_run {P : Program} {kt : TypeId} {d : TypeDesc} {k' : Value} (hd : P.underlying kt = some d) {es : List MapEntry} {a : Option (Nat × Value)} (h : Fnd P kt d k' es 0 a) (w : World) : (Instr.findKey kt k' es).run P w = .ok a w := by
  rcases h with ⟨hn, h⟩ | ⟨hn, h⟩
  · exact Go.MapKept.run_findKey hd h
  · cases es with
    | nil =>
      have := h w
      simp [Instr.findAsking] at this
      subst this
      exact Go.MapKept.run_findKey hd rfl
    | cons e es =>
      have : Instr.findNow d k' (e :: es) 0 = none := by simp [Instr.findNow, sameNow_ask hn]
      simp only [Instr.findKey, Sem.run_bind, run_underlying hd, Result.andThen_ok, this]
      exact h w
end
end
end Go.Proofs.Ytmdiabglbmgkkaa
namespace Go.Proofs.Ytmdiabglbmgkkaa
open Go.RowKit
noncomputable section
attribute [local irreducible] T.put T.set
theorem nodup_wlog {c : Cx} {o : Oper} {Kn : St → Prop} {K : Exit → St → Prop} {σ : St} (h : (σ.L.map Prod.fst).Nodup → OW c o Kn K σ) : OW c o Kn K σ := fun a w ha => h ha.mem.nodup a w ha
end
end Go.Proofs.Ytmdiabglbmgkkaa
namespace Go.Proofs.Ytmdiabglbmgkkaa
open Go.RowKit
noncomputable section
attribute [local irreducible] T.put T.set
section
variable {c : Cx} {o : Oper} {K : Exit → St → Prop} {σ : St} {bs : Bs} {M F : List (Nat × Obj)} {d : Nat} 
theorem run_append_in_src {P : Program} (w : World) (t tx ty e : TypeId) (i : TypeInfo) (ht : P.underlying t = some (.slice e)) (hi : P.info? e = some i)
    (g off sLen sCap : Nat) (cur : Array Value) (hg : w.heap[g]? = some (.cells cur e (0, 0)))
    (x : Value) (m : Nat) (news : List Value) (hs : Src P i.size tx x m news w)
    (hroom : sLen + m ≤ sCap) (hfit : off + sLen * i.size + news.length ≤ cur.size) :
    (Builtin.append_ #[t, tx] ty #[.slice (some ⟨g, off, none⟩) sLen sCap, x]).run P w =
      .ok (.slice (some ⟨g, off, none⟩) (sLen + m) sCap) (w.setRow g (putR cur (off + sLen * i.size) news.toArray)) := by
  have hst := run_storeCells_at P g (off + sLen * i.size) e news 0 cur w hg (by simpa using hfit) hs.one
  simp only [Nat.add_zero] at hst
  rcases hs.kind with ⟨e', hk⟩ | hk <;> simp [Builtin.append_, run_underlying ht, run_underlying hk, sizeOf, typeInfo, hi, hs.len, hroom, hs.cells, Addr.add_mid, hst, putR]
theorem OW_append_src {c : Cx} {o : Oper} {Kn : St → Prop} {K : Exit → St → Prop} {s : List (Nat × Value)} {D : List Deferred} {L : List (Nat × Obj)} {t t2 E size by_ d : Nat} {z : Array Value} [hu : TUnd c.P t (.slice E)] [hrow : TRow c.P E z size by_] {x y : Operand}
    (ho : o.op = .call { callee := .builtin .append, args := #[x, y], argTypes := #[t, t2] }) (hdst : o.dst = some d) (hd : Nat.blt d c.N = true) {g off n cap : Nat} {cur : Array Value} (hx : ev s x = some (.slice (some ⟨g, off, none⟩) n cap)) (i : Nat) (hs : SlAt L i g off n cap E size cur)
    {m : Nat} {y' : Value} {news : List Value} (hy : ev s y = some y') (hsrc : ∀ a w, Holds c.g c.N ⟨s, D, L⟩ a w → Src c.P size t2 y' m news w)
    (hmax : n + m ≤ maxLen) (hby : (n + m) * by_ ≤ 140737488355328)
    (hk : ∀ g' off' cap' cur' L', setL L i (g', .cells cur' E (0, 0)) = some L' → SlAt L' i g' off' (n + m) cap' E size cur' → cur'.extract off' (off' + (n + m) * size) = cur.extract off (off + n * size) ++ news.toArray → Kn ⟨(d, .slice (some ⟨g', off', none⟩) (n + m) cap') :: s, D, L'⟩) : OW c o Kn K ⟨s, D, L⟩ := fun a w ha => by
  refine ⟨fun _ _ => trivial, ?_⟩
  obtain ⟨ii, zz, r1, r2, r3, r4, r5, r6⟩ := hrow.h
  have hsr := hsrc a w ha
  have hlen := hsr.newsLen
  have hset : ∀ (L : List (Nat × Obj)) (i : Nat) (p q : Nat × Obj), L[i]? = some q → setL L i p = some (L.set i p) := by
    intro L
    induction L with
    | nil => intro i p q h; simp at h
    | cons x r ih =>
      intro i p q h
      cases i with
      | zero => rfl
      | succ i => simp only [List.getElem?_cons_succ] at h; simp [setL, ih i p q h]
  have hat : ∀ (L : List (Nat × Obj)) (i : Nat) (p q : Nat × Obj), L[i]? = some q → (L.set i p)[i]? = some p := by
    intro L i p q h
    obtain ⟨hlt, _⟩ := List.getElem?_eq_some_iff.1 h
    simp [hlt]
  have hz : news.toArray.size = m * size := by simpa using hlen
  by_cases hroom : n + m ≤ cap
  · have hfit1 : off + n * size + news.toArray.size ≤ cur.size := by
      have h2 := hs.fit
      have h3 : (n + m) * size ≤ cap * size := Nat.mul_le_mul_right _ hroom
      rw [Nat.add_mul] at h3
      omega
    have hr := run_append_in_src (P := c.P) w t t2 o.type E ii hu.h r1 g off n cap cur (ha.mem.at_ hs.at_) y' m news (by rw [r4]; exact hsr) hroom (by rw [r4]; simpa using hfit1)
    have hr' : (execOp a.eval o).run c.P w = .ok (.value (.slice (some ⟨g, off, none⟩) (n + m) cap)) (w.setRow g (putR cur (off + n * size) news.toArray)) := by
      rw [r4] at hr
      simp [execOp, ho, resolve, invoke, builtin, ha.ev hx, ha.ev hy, hr]
    rw [Oper.semAt_eq _ _ _ (by rw [ho]; intro cc h; cases h), hr']
    have hps := putR_size cur news.toArray (off + n * size) hfit1
    refine ⟨_, ?_, hk g off cap (putR cur (off + n * size) news.toArray) _ (hset _ _ _ _ hs.at_) ⟨hat _ _ _ _ hs.at_, hroom, hs.max, by rw [hps]; exact hs.fit⟩ ?_⟩
    · rw [hdst]
      exact (ha.mem' (ha.mem.setRow hs.at_ _)).put (d := some d) hd _
    · apply Array.ext_getElem?
      intro q
      rw [Array.getElem?_extract, Array.getElem?_append, Array.getElem?_extract, hps]
      have hsz : (cur.extract off (off + n * size)).size = n * size := by simp; omega
      rw [hsz]
      rw [Nat.add_mul]
      by_cases hq : q < n * size
      · rw [if_pos (by omega), if_pos hq, if_pos (by omega), putR_get_out _ _ _ _ hfit1 (by omega)]
      · rw [if_neg hq]
        by_cases hq2 : q < n * size + m * size
        · rw [if_pos (by omega)]
          have := putR_get_in cur news.toArray (off + n * size) (q - n * size) hfit1 (by omega)
          rw [show off + n * size + (q - n * size) = off + q by omega] at this
          exact this
        · rw [if_neg (by omega), Array.getElem?_eq_none (by omega)]
  · have hold := cells_at ha.mem hs.at_ off (n * size)
    have h3 : n * size ≤ cap * size := Nat.mul_le_mul_right _ hs.le
    have hfit0 := hs.fit
    have hsz : (cur.extract off (off + n * size)).size = n * size := by simp; omega
    have hr := run_append_grow_src (P := c.P) w t t2 o.type E ii zz hu.h r1 r2 (some ⟨g, off, none⟩) n cap (cur.extract off (off + n * size)).toList (run_firstCells_some w.drew ii.size n ⟨g, off, none⟩ n cap _ (by rw [Array.length_toList, hsz, r4]) (by simpa using hold)) y' m news (by rw [r4]; exact hsr) (by omega) (by simp only [maxLen] at hmax; omega) (growslice_fits (by omega) (by rw [r5]; exact hby))
    rw [r3] at hr
    obtain ⟨cap', hcap'⟩ : ∃ q, grownCap w (n + m) cap E = q := ⟨_, rfl⟩
    have hge := grownCap_ge w (n + m) cap E
    have hcm := grownCap_le_maxLen w (n + m) cap E hmax
    rw [hcap'] at hr hge hcm
    have e0 : ((cur.extract off (off + n * size)).toList ++ news).toArray = cur.extract off (off + n * size) ++ news.toArray := by apply Array.ext'; simp
    rw [e0] at hr
    have hr' : (execOp a.eval o).run c.P w = .ok (.value (.slice (some ⟨w.heap.size, 0, none⟩) (n + m) cap')) (w.drew.alloc (.cells (cur.extract off (off + n * size) ++ news.toArray ++ Builtin.zeroCells z (cap' - (n + m))) E)) := by
      simp [execOp, ho, resolve, invoke, builtin, ha.ev hx, ha.ev hy, hr]
    rw [Oper.semAt_eq _ _ _ (by rw [ho]; intro cc h; cases h), hr']
    have hN : (cur.extract off (off + n * size) ++ news.toArray).size = (n + m) * size := by rw [Array.size_append, hsz, hz, Nat.add_mul]
    refine ⟨_, ?_, hk w.heap.size 0 cap' (cur.extract off (off + n * size) ++ news.toArray ++ Builtin.zeroCells z (cap' - (n + m))) _ (hset _ _ _ _ hs.at_) ⟨hat _ _ _ _ hs.at_, hge, hcm, ?_⟩ ?_⟩
    · rw [hdst]
      have hm1 := (ha.mem.drew).alloc (.cells (cur.extract off (off + n * size) ++ news.toArray ++ Builtin.zeroCells z (cap' - (n + m))) E)
      have hm2 : Mem c.g (L.set i (w.heap.size, .cells (cur.extract off (off + n * size) ++ news.toArray ++ Builtin.zeroCells z (cap' - (n + m))) E)) _ :=
        (hm1.perm (L' := (w.heap.size, .cells (cur.extract off (off + n * size) ++ news.toArray ++ Builtin.zeroCells z (cap' - (n + m))) E) :: L) (.refl _)).sublist ((List.eraseIdx_sublist L i).cons_cons _) |>.perm (set_perm hs.at_ _)
      exact (ha.mem' hm2).put (d := some d) hd _
    · rw [Array.size_append, hN, size_zeroCells, r6, ← Nat.add_mul]
      have : n + m + (cap' - (n + m)) = cap' := by omega
      rw [this]; omega
    · rw [Nat.zero_add, ← hN]
      exact extract_left _ _
end
end
end Go.Proofs.Ytmdiabglbmgkkaa
namespace Go.Proofs.Ytmdiabglbmgkkaa
open Go.RowKit
theorem wI64 {x : Int} (h1 : -9223372036854775808 ≤ x) (h2 : x < 9223372036854775808) : IntKind.i64.wrap x = x := by
  rw [IntKind.wrap_i64]; omega
theorem wU8_mod (x : Int) : IntKind.u8.wrap x = x % 256 := by
  simp [IntKind.wrap, IntKind.bits, IntKind.signed]
def bV (u : UInt8) : Value := .int .u8 (u.toNat : Int)
def bstr (l : List UInt8) : ByteArray := ⟨l.toArray⟩
theorem bstr_size (l : List UInt8) : (bstr l).size = l.length := by simp [bstr, ByteArray.size]
theorem bstr_of (s : ByteArray) : s = bstr s.data.toList := by
  apply ByteArray.ext
  simp [bstr]
theorem toList_bstr (l : List UInt8) : (bstr l).toList = l := by
  rw [ByteArray.toList_eq]; simp [bstr]
theorem bstr_get (l : List UInt8) (i : Nat) (h : i < l.length) : (bstr l)[i]'(by rw [bstr_size]; exact h) = l[i] := by
  simp [bstr, ByteArray.getElem_eq_getElem_data]
theorem bstr_extract (l : List UInt8) (a b : Nat) : (bstr l).extract a b = bstr ((l.take b).drop a) := by
  apply ByteArray.ext
  rw [ByteArray.data_extract]
  apply Array.ext'
  simp [bstr, List.drop_take, List.extract_eq_take_drop]
section
variable {c : Cx} {s : List (Nat × Value)} {L : List (Nat × Obj)} {o : Oper}
theorem Qt_neqStr {t t' : TypeId} {x y : Operand} {a b : List UInt8} (ho : o.op = .binOp .neq t x y t') (hx : ev s x = some (.string (bstr a)) := by exact rfl) (hy : ev s y = some (.string (bstr b)) := by exact rfl) : Qt c s L o (.bool (!(a == b))) :=
  Qt_binW ho hx hy (by simp [binW, toList_bstr])
theorem Qt_lenB {t : TypeId} [hu : TUnd c.P t .string] {x : Operand} {l : List UInt8} (ho : o.op = .call { callee := .builtin .len, args := #[x], argTypes := #[t] }) (hx : ev s x = some (.string (bstr l)) := by exact rfl) : Qt c s L o (.int .i64 l.length) := by
  have := Qt_lenStr (c := c) (s := s) (L := L) (o := o) ho hx
  rwa [bstr_size] at this
theorem Qt_indexB {t : TypeId} [hu : TUnd c.P t .string] {x y : Operand} {l : List UInt8} {k : IntKind} {i : Int} {u : UInt8} (ho : o.op = .index t x y) (hx : ev s x = some (.string (bstr l)) := by exact rfl) (hy : ev s y = some (.int k i) := by exact rfl)
    (h0 : 0 ≤ i := by first | with_reducible assumption | decide | omega) (h1 : l[i.toNat]? = some u := by first | with_reducible assumption | rfl | (simp; done)) : Qt c s L o (bV u) :=
  Qt_of_run (by simp [ho]) (fun ρ hρ w _ => by
    obtain ⟨hlt, he⟩ := List.getElem?_eq_some_iff.1 h1
    have h3 : 0 ≤ i ∧ i < (bstr l).size := ⟨h0, by rw [bstr_size]; omega⟩
    have h2 := run_index_string (P := c.P) w t (bstr l) k i hu.h
    rw [dif_pos h3, bstr_get l _ hlt, he] at h2
    simp only [execOp, ho, hρ x _ hx, hρ y _ hy, Sem.run_bind, h2, Result.andThen]
    rfl)
theorem Qt_cutB {t : TypeId} [hu : TUnd c.P t .string] {x lo hi : Operand} {l : List UInt8} {k k' : IntKind} {i j : Int} (ho : o.op = .slice t x (some lo) (some hi) none) (hx : ev s x = some (.string (bstr l)) := by exact rfl) (hl : ev s lo = some (.int k i) := by exact rfl) (hh : ev s hi = some (.int k' j) := by exact rfl)
    (h0 : 0 ≤ i := by first | with_reducible assumption | decide | omega) (h1 : i ≤ j := by first | with_reducible assumption | decide | omega) (h2 : j ≤ l.length := by first | with_reducible assumption | decide | omega) : Qt c s L o (.string (bstr ((l.take j.toNat).drop i.toNat))) :=
  Qt_of_run (by simp [ho]) (fun ρ hρ w _ => by
    rw [← bstr_extract]
    have h2' : j ≤ ((bstr l).size : Int) := by rw [bstr_size]; exact h2
    have ej : (j.toNat : Int) = j := Int.toNat_of_nonneg (by omega)
    simp [execOp, ho, hρ x _ hx, hρ lo _ hl, hρ hi _ hh, Instr.sliceAt, run_underlying hu.h, Instr.slice, Instr.sliceBounds, Instr.sliceBound, asIntOf, h0, h1, h2', ej, show 0 ≤ j by omega])
theorem Qt_cutToB {t : TypeId} [hu : TUnd c.P t .string] {x hi : Operand} {l : List UInt8} {k' : IntKind} {j : Int} (ho : o.op = .slice t x none (some hi) none) (hx : ev s x = some (.string (bstr l)) := by exact rfl) (hh : ev s hi = some (.int k' j) := by exact rfl)
    (h1 : 0 ≤ j := by first | with_reducible assumption | decide | omega) (h2 : j ≤ l.length := by first | with_reducible assumption | decide | omega) : Qt c s L o (.string (bstr (l.take j.toNat))) :=
  Qt_of_run (by simp [ho]) (fun ρ hρ w _ => by
    have e := bstr_extract l 0 j.toNat
    rw [List.drop_zero] at e
    rw [← e]
    have h2' : j ≤ ((bstr l).size : Int) := by rw [bstr_size]; exact h2
    have ej : (j.toNat : Int) = j := Int.toNat_of_nonneg (by omega)
    simp [execOp, ho, hρ x _ hx, hρ hi _ hh, Instr.sliceAt, run_underlying hu.h, Instr.slice, Instr.sliceBounds, Instr.sliceBound, asIntOf, h1, h2'])
end
def Vec (sz : Nat) (L : List (Nat × Obj)) (v : Value) (n : Nat) (xs : List Value) : Prop :=
  xs.length = n * sz ∧ ∃ a cap, v = .slice a n cap ∧ n ≤ cap ∧ cap ≤ maxLen ∧ (n = 0 ∨ ∃ (b off : Nat) (cs : Array Value) (E : TypeId) (fr : Nat × Nat) (i : Nat), a = some ⟨b, off, none⟩ ∧ L[i]? = some (b, Obj.cells cs E fr) ∧ ∀ j x, xs[j]? = some x → cs[off + j]? = some x)
theorem Vec.mono {sz : Nat} {L L' : List (Nat × Obj)} {v : Value} {n : Nat} {xs : List Value} (h : Vec sz L v n xs) (hs : ∀ (i : Nat) (p : Nat × Obj), L[i]? = some p → ∃ j : Nat, L'[j]? = some p) : Vec sz L' v n xs := by
  obtain ⟨h1, a, cap, h2, h3, h4, h5⟩ := h
  refine ⟨h1, a, cap, h2, h3, h4, ?_⟩
  rcases h5 with h5 | ⟨b, off, cs, E, fr, i, e1, e2, e3⟩
  · exact .inl h5
  · obtain ⟨j, hj⟩ := hs i _ e2
    exact .inr ⟨b, off, cs, E, fr, j, e1, hj, e3⟩
theorem Vec.cons {sz : Nat} {L : List (Nat × Obj)} {v : Value} {n : Nat} {xs : List Value} (p : Nat × Obj) (h : Vec sz L v n xs) : Vec sz (p :: L) v n xs := h.mono fun i _ hi => ⟨i + 1, hi⟩
theorem Vec.app {sz : Nat} {L : List (Nat × Obj)} {v : Value} {n : Nat} {xs : List Value} (A : List (Nat × Obj)) (h : Vec sz L v n xs) : Vec sz (A ++ L) v n xs := h.mono fun i _ hi => ⟨A.length + i, by rw [List.getElem?_append_right (by omega), show A.length + i - A.length = i by omega]; exact hi⟩
theorem Vec.nil (sz : Nat) (L : List (Nat × Obj)) : Vec sz L (.slice none 0 0) 0 [] := ⟨by simp, none, 0, rfl, by omega, by simp [maxLen], .inl rfl⟩
def ByAt (L : List (Nat × Obj)) (v : Value) (l : List UInt8) : Prop := Vec 1 L v l.length (l.map bV)
theorem ByAt.app {L : List (Nat × Obj)} {v : Value} {l : List UInt8} (A : List (Nat × Obj)) (h : ByAt L v l) : ByAt (A ++ L) v l := Vec.app A h
theorem ByAt.nil (L : List (Nat × Obj)) : ByAt L (.slice none 0 0) [] := Vec.nil 1 L
theorem ByAt.take {L : List (Nat × Obj)} {a : Option Addr} {cap : Nat} {l : List UInt8} (h : ByAt L (.slice a l.length cap) l) (n : Nat) : ByAt L (.slice a (l.take n).length cap) (l.take n) := by
  obtain ⟨h1, a', cap', h2, h3, h4, h5⟩ := h
  simp only [Value.slice.injEq] at h2
  obtain ⟨rfl, _, rfl⟩ := h2
  refine ⟨by simp, a, cap, rfl, by rw [List.length_take]; omega, h4, ?_⟩
  rcases h5 with h5 | ⟨b, off, cs, E, fr, i, e1, e2, e3⟩
  · left; rw [List.length_take]; omega
  · refine .inr ⟨b, off, cs, E, fr, i, e1, e2, fun j x hx => e3 j x ?_⟩
    rw [List.map_take, List.getElem?_take] at hx
    split at hx
    · exact hx
    · cases hx
theorem Vec.cells {sz : Nat} {L : List (Nat × Obj)} {a : Option Addr} {n n' cap : Nat} {xs : List Value} (h : Vec sz L (.slice a n' cap) n xs) {g w : World} (hm : Mem g L w) : (∃ a', a = some a' ∧ ∀ j x, xs[j]? = some x → w.cell? (a'.add j) = some x) ∨ (n = 0 ∧ xs = []) := by
  obtain ⟨h1, a', cap', h2, h3, h4, h5⟩ := h
  simp only [Value.slice.injEq] at h2
  obtain ⟨rfl, rfl, rfl⟩ := h2
  rcases h5 with h5 | ⟨b, off, cs, E, fr, i, e1, e2, e3⟩
  · right
    subst h5
    exact ⟨rfl, List.eq_nil_of_length_eq_zero (by omega)⟩
  · left
    refine ⟨_, e1, fun j x hj => ?_⟩
    rw [Addr.add_mid, cell_of_row w b (off + j) cs E fr (hm.at_ e2)]
    exact e3 j x hj
theorem Vec.first {P : Program} {sz : Nat} {L : List (Nat × Obj)} {a : Option Addr} {n cap : Nat} {xs : List Value} (h : Vec sz L (.slice a n cap) n xs) {g w : World} (hm : Mem g L w) (cap' : Nat) : (Builtin.firstCells sz n (.slice a n cap')).run P w = .ok xs.toArray w := by
  have hl := h.1
  rcases h.cells hm with ⟨a', rfl, h2⟩ | ⟨rfl, rfl⟩
  · exact run_firstCells_some w sz n a' n cap' xs hl h2
  · cases a with
    | none => exact run_firstCells_none w sz 0 0 cap'
    | some a => exact run_firstCells_some w sz 0 a 0 cap' [] (by simp) (fun j x hj => by simp at hj)
section
variable {c : Cx} {s : List (Nat × Value)} {L : List (Nat × Obj)} {o : Oper}
theorem Qt_str {t t' e : TypeId} [hu : TUnd c.P t (.slice e)] [hu' : TUnd c.P t' .string] [he : TUnd c.P e (.int .u8)] {x : Operand} {v : Value} {l : List UInt8} (ho : o.op = .convert t t' x) (hx : ev s x = some v := by exact rfl)
    (hv : ByAt L v l := by repeat (first | with_reducible assumption | apply ByAt.cons)) : Qt c s L o (.string (bstr l)) :=
  Qt_of_run (by simp [ho]) (fun ρ hρ w hm => by
    have hv' := hv
    obtain ⟨h1, a, cap, rfl, h3, h4, _⟩ := hv
    have hb := run_convert_bytes_string (P := c.P) w t t' e a l.length cap hu.h he.h hu'.h
    rcases Vec.cells hv' hm with ⟨a', rfl, h2⟩ | ⟨h5, h6⟩
    · have hl := run_loadCells_list (P := c.P) w a' ((l.map fun u => (u.toNat : Int)).map (Value.int .u8)) (fun j v hv => h2 j v (by simpa [bV, List.map_map, Function.comp_def] using hv))
      have hs := run_bytesToString (P := c.P) w a' l.length cap (l.map fun u => (u.toNat : Int)) (by simpa using hl)
      rw [foldl_push_byteCells] at hs
      simp [execOp, ho, hρ x _ hx, hb, hs, bstr]
    · have hl : l = [] := List.eq_nil_of_length_eq_zero h5
      subst hl
      simp only [List.length_nil] at hb
      cases a with
      | none => simp [execOp, ho, hρ x _ hx, hb, Conv.bytesToString, bstr]; rfl
      | some a =>
        have hl := run_loadCells_list (P := c.P) w a [] (by simp)
        have hs := run_bytesToString (P := c.P) w a 0 cap [] (by simpa using hl)
        simp [execOp, ho, hρ x _ hx, hb, hs, bstr]; rfl)
theorem Qt_str1 {t t' e : TypeId} [hu : TUnd c.P t (.slice e)] [hu' : TUnd c.P t' .string] [he : TUnd c.P e (.int .u8)] {x : Operand} {b E cap : Nat} {fr : Nat × Nat} {n : Int} (ho : o.op = .convert t t' x) (hx : ev s x = some (.slice (some ⟨b, 0, none⟩) 1 cap) := by exact rfl)
    (hi : ∃ i : Nat, L[i]? = some (b, .cells #[.int .u8 n] E fr) := by first | exact ⟨0, rfl⟩ | exact ⟨1, rfl⟩ | exact ⟨2, rfl⟩ | exact ⟨3, rfl⟩) : Qt c s L o (.string (bstr [UInt8.ofNat n.toNat])) :=
  Qt_of_run (by simp [ho]) (fun ρ hρ w hm => by
    obtain ⟨i, hi⟩ := hi
    have hb := run_convert_bytes_string (P := c.P) w t t' e (some ⟨b, 0, none⟩) 1 cap hu.h he.h hu'.h
    have hl := run_loadCells_list (P := c.P) w ⟨b, 0, none⟩ ([n].map (Value.int .u8)) (fun j v hv => by
      rw [Addr.add_mid, cell_of_row w b (0 + j) _ E fr (hm.at_ hi)]
      cases j with
      | zero => simpa using hv
      | succ j => simp at hv)
    have hs := run_bytesToString (P := c.P) w ⟨b, 0, none⟩ 1 cap [n] (by simpa using hl)
    simp [execOp, ho, hρ x _ hx, hb, hs, bstr]
    rfl)
theorem Qt_slLHM {t E n : Nat} [hu : TUnd c.P t (.slice E)] [hs : TSize c.P E n] {x hi mx : Operand} {a : Option Addr} {len cap : Nat} {k k' : IntKind} {h m : Int} (ho : o.op = .slice t x none (some hi) (some mx)) (hx : ev s x = some (.slice a len cap) := by exact rfl) (hh : ev s hi = some (.int k h) := by exact rfl) (hm : ev s mx = some (.int k' m) := by exact rfl)
    (h0 : 0 ≤ h := by first | with_reducible assumption | decide | omega) (h1 : h ≤ m := by first | with_reducible assumption | exact Int.le_refl _ | omega) (h2 : m ≤ cap := by first | with_reducible assumption | omega) : Qt c s L o (.slice a h.toNat m.toNat) :=
  Qt_of_run (by simp [ho]) (fun ρ hρ w _ => by
    have hut : c.P.underlying t = some (.slice (c.P.elem t)) := by rw [elem_of hu.h]; exact hu.h
    have h3 := run_slice_hm (P := c.P) w t a len cap hut k k' h m h0 h1 h2
    rw [elem_of hu.h, hs.h] at h3
    have h4 := run_sliceAt_slice (P := c.P) w t (.slice a len cap) none (some (.int k h)) (some (.int k' m)) hut
    have h5 : sliced a 0 h.toNat m.toNat n = .slice a h.toNat m.toNat := by
      unfold sliced
      cases a <;> simp [Addr.add]
    simp only [Result.andThen, h5] at h3
    simp [execOp, ho, hρ x _ hx, hρ hi _ hh, hρ mx _ hm, h4, h3])
theorem Qt_slTo {t E n : Nat} [hu : TUnd c.P t (.slice E)] [hs : TSize c.P E n] {x hi : Operand} {a : Option Addr} {len cap : Nat} {k : IntKind} {h : Int} (ho : o.op = .slice t x none (some hi) none) (hx : ev s x = some (.slice a len cap) := by exact rfl) (hh : ev s hi = some (.int k h) := by exact rfl)
    (h0 : 0 ≤ h := by first | with_reducible assumption | decide | omega) (h2 : h ≤ cap := by first | with_reducible assumption | omega) : Qt c s L o (.slice a h.toNat cap) :=
  Qt_of_run (by simp [ho]) (fun ρ hρ w _ => by
    have hut : c.P.underlying t = some (.slice (c.P.elem t)) := by rw [elem_of hu.h]; exact hu.h
    have h3 := run_slice_h (P := c.P) w t a len cap hut k h h0 h2
    rw [elem_of hu.h, hs.h] at h3
    have h4 := run_sliceAt_slice (P := c.P) w t (.slice a len cap) none (some (.int k h)) none hut
    have h5 : sliced a 0 h.toNat cap n = .slice a h.toNat cap := by
      unfold sliced
      cases a <;> simp [Addr.add]
    simp only [Result.andThen, h5] at h3
    simp [execOp, ho, hρ x _ hx, hρ hi _ hh, h4, h3])
theorem Qt_min {t t2 : TypeId} {x y : Operand} {k : IntKind} {a b : Int} (ho : o.op = .call { callee := .builtin .min, args := #[x, y], argTypes := #[t, t2] }) (hx : ev s x = some (.int k a) := by exact rfl) (hy : ev s y = some (.int k b) := by exact rfl) : Qt c s L o (.int k (if b < a then b else a)) :=
  Qt_of_run (by simp [ho]) (fun ρ hρ w _ => by
    simp [execOp, ho, resolve, invoke, builtin, hρ x _ hx, hρ y _ hy, Builtin.min_, Builtin.min2])
end
structure Own (sz : Nat) (cur : Array Value) (off cap n : Nat) (xs : List Value) : Prop where
  len : xs.length = n * sz
  le : n ≤ cap
  max : cap ≤ maxLen
  fit : off + cap * sz ≤ cur.size
  at_ : ∀ j x, xs[j]? = some x → cur[off + j]? = some x
theorem Own.vec {sz : Nat} {cur : Array Value} {off cap n : Nat} {xs : List Value} (h : Own sz cur off cap n xs) {L : List (Nat × Obj)} {b E : Nat} {fr : Nat × Nat} (i : Nat) (hi : L[i]? = some (b, .cells cur E fr)) : Vec sz L (.slice (some ⟨b, off, none⟩) n cap) n xs :=
  ⟨h.len, _, _, rfl, h.le, h.max, .inr ⟨b, off, cur, E, fr, i, rfl, hi, h.at_⟩⟩
theorem Own.extract {sz : Nat} {cur : Array Value} {off cap n : Nat} {xs : List Value} (h : Own sz cur off cap n xs) : cur.extract off (off + n * sz) = xs.toArray := by
  have hl := h.len
  have hf := h.fit
  have hle : n * sz ≤ cap * sz := Nat.mul_le_mul_right _ h.le
  apply Array.ext_getElem?
  intro j
  rw [Array.getElem?_extract]
  by_cases hj : j < n * sz
  · rw [if_pos (by omega)]
    have := h.at_ j (xs[j]'(by omega)) (List.getElem?_eq_getElem (by omega))
    rw [this]; simp [hl, hj]
  · rw [if_neg (by omega)]; simp; omega
theorem Own.of_extract {sz : Nat} {cur : Array Value} {off cap n : Nat} {xs : List Value} (hl : xs.length = n * sz) (hle : n ≤ cap) (hm : cap ≤ maxLen) (hf : off + cap * sz ≤ cur.size) (he : cur.extract off (off + n * sz) = xs.toArray) : Own sz cur off cap n xs := by
  refine ⟨hl, hle, hm, hf, fun j x hx => ?_⟩
  have hj := (List.getElem?_eq_some_iff.1 hx).1
  have hle' : n * sz ≤ cap * sz := Nat.mul_le_mul_right _ hle
  have h1 : (cur.extract off (off + n * sz))[j]? = some x := by rw [he]; simpa using hx
  rw [Array.getElem?_extract, if_pos (by omega)] at h1
  exact h1
def SrcL (c : Cx) (L : List (Nat × Obj)) (sz : Nat) (t2 : TypeId) (y : Value) (m : Nat) (news : List Value) : Prop := ∀ w, Mem c.g L w → Src c.P sz t2 y m news w
theorem srcVec {c : Cx} {L : List (Nat × Obj)} {sz t2 e m : Nat} {y : Value} {news : List Value} [hu : TUnd c.P t2 (.slice e)] (h : Vec sz L y m news) (h1 : ∀ u ∈ news, u.oneCell' = true) : SrcL c L sz t2 y m news := fun w hm => by
  have h' := h
  obtain ⟨hl, a, cap, rfl, _⟩ := h
  rcases Vec.cells h' hm with ⟨a', rfl, h2⟩ | ⟨rfl, rfl⟩
  · exact Src.ofSlice w hu.h a' m cap news hl h2 h1
  · cases a with
    | none => exact Src.ofNil w hu.h cap
    | some a => exact Src.ofSlice w hu.h a 0 cap [] (by simp) (fun j u hj => by simp at hj) (fun u hu => by cases hu)
theorem srcStr {c : Cx} {L : List (Nat × Obj)} {t2 : Nat} {l : List UInt8} [hu : TUnd c.P t2 .string] : SrcL c L 1 t2 (.string (bstr l)) l.length (l.map bV) := fun w _ => by
  have := Src.ofString (P := c.P) w (tx := t2) hu.h (bstr l)
  rw [bstr_size] at this
  have e : byteCells (bstr l) = l.map bV := by simp [byteCells, bstr, bV]
  rwa [e] at this
theorem OW_append_new {c : Cx} {o : Oper} {Kn : St → Prop} {K : Exit → St → Prop} {s : List (Nat × Value)} {D : List Deferred} {L : List (Nat × Obj)} {t t2 E size by_ d : Nat} {z : Array Value} {x y : Operand} [hu : TUnd c.P t (.slice E)] [hrow : TRow c.P E z size by_]
    (ho : o.op = .call { callee := .builtin .append, args := #[x, y], argTypes := #[t, t2] }) (hdst : o.dst = some d) {a : Option Addr} {n cap m : Nat} (hx : ev s x = some (.slice a n cap)) {y' : Value} (hy : ev s y = some y') (hd : Nat.blt d c.N = true) {olds news : List Value} (hv : Vec size L (.slice a n cap) n olds)
    (hs : SrcL c L size t2 y' m news) (hm : cap < n + m) (hmax : n + m ≤ maxLen) (hby : (n + m) * by_ ≤ 140737488355328)
    (hk : ∀ b cap' cur, Own size cur 0 cap' (n + m) (olds ++ news) → Kn ⟨(d, .slice (some ⟨b, 0, none⟩) (n + m) cap') :: s, D, (b, .cells cur E (0, 0)) :: L⟩) : OW c o Kn K ⟨s, D, L⟩ := fun ac w ha => by
  refine ⟨fun _ _ => trivial, ?_⟩
  obtain ⟨ii, zz, r1, r2, r3, r4, r5, r6⟩ := hrow.h
  have hsr := hs w ha.mem
  have hlen := hsr.newsLen
  have hold := hv.first (P := c.P) ha.mem.drew cap
  have hle : n ≤ cap := by obtain ⟨_, a', c', e, h1, _⟩ := hv; cases e; exact h1
  have hr := run_append_grow_src (P := c.P) w t t2 o.type E ii zz hu.h r1 r2 a n cap olds (by rw [r4]; exact hold) y' m news (by rw [r4]; exact hsr) hm (by simp only [maxLen] at hmax; omega) (growslice_fits (by omega) (by rw [r5]; exact hby))
  rw [r3] at hr
  obtain ⟨cap', hcap'⟩ : ∃ q, grownCap w (n + m) cap E = q := ⟨_, rfl⟩
  have hge := grownCap_ge w (n + m) cap E
  have hcm := grownCap_le_maxLen w (n + m) cap E hmax
  rw [hcap'] at hr hge hcm
  have hr' : (execOp ac.eval o).run c.P w = .ok (.value (.slice (some ⟨w.heap.size, 0, none⟩) (n + m) cap')) (w.drew.alloc (.cells ((olds ++ news).toArray ++ Builtin.zeroCells z (cap' - (n + m))) E)) := by
    simp [execOp, ho, resolve, invoke, builtin, ha.ev hx, ha.ev hy, hr]
  rw [Oper.semAt_eq _ _ _ (by rw [ho]; intro cc h; cases h), hr']
  have hol : (olds ++ news).length = (n + m) * size := by rw [List.length_append, hv.1, hlen, Nat.add_mul]
  refine ⟨_, ?_, hk w.heap.size cap' ((olds ++ news).toArray ++ Builtin.zeroCells z (cap' - (n + m))) ⟨hol, hge, hcm, ?_, fun j u hu => ?_⟩⟩
  · rw [hdst]
    exact (ha.mem' ((ha.mem.drew).alloc _)).put (d := some d) hd _
  · rw [Array.size_append, List.size_toArray, hol, size_zeroCells, r6, ← Nat.add_mul]
    have : n + m + (cap' - (n + m)) = cap' := by omega
    rw [this]; omega
  · have hj := (List.getElem?_eq_some_iff.1 hu).1
    rw [Nat.zero_add, Array.getElem?_append_left (by simpa using hj)]
    simpa using hu
theorem OW_append_own {c : Cx} {o : Oper} {Kn : St → Prop} {K : Exit → St → Prop} {s : List (Nat × Value)} {D : List Deferred} {L : List (Nat × Obj)} {t t2 E size by_ d : Nat} {z : Array Value} {x y : Operand} [hu : TUnd c.P t (.slice E)] [hrow : TRow c.P E z size by_]
    (ho : o.op = .call { callee := .builtin .append, args := #[x, y], argTypes := #[t, t2] }) (hdst : o.dst = some d) {g off n cap m : Nat} (hx : ev s x = some (.slice (some ⟨g, off, none⟩) n cap)) {y' : Value} (hy : ev s y = some y') (hd : Nat.blt d c.N = true) {cur : Array Value} {xs news : List Value} (i : Nat) (hi : L[i]? = some (g, .cells cur E (0, 0))) (hv : Own size cur off cap n xs)
    (hs : SrcL c L size t2 y' m news) (hmax : n + m ≤ maxLen) (hby : (n + m) * by_ ≤ 140737488355328)
    (hk : ∀ b off' cap' cur', Own size cur' off' cap' (n + m) (xs ++ news) → Kn ⟨(d, .slice (some ⟨b, off', none⟩) (n + m) cap') :: s, D, L.set i (b, .cells cur' E (0, 0))⟩) : OW c o Kn K ⟨s, D, L⟩ := by
  refine nodup_wlog fun hnd => ?_
  refine OW_append_src (c := c) ho hdst hd hx i ⟨hi, hv.le, hv.max, hv.fit⟩ (m := m) (y' := y') (news := news) hy (fun a w ha => hs w ha.mem) hmax hby fun g' off' cap' cur' L' h1 h2 h3 => ?_
  have h4 := setL_eq h1
  subst h4
  refine hk g' off' cap' cur' (Own.of_extract ?_ h2.le h2.max h2.fit ?_)
  · have : (cur'.extract off' (off' + (n + m) * size)).size = (n + m) * size := by
      have := h2.fit
      have h5 : (n + m) * size ≤ cap' * size := Nat.mul_le_mul_right _ h2.le
      simp; omega
    rw [h3, hv.extract] at this
    simpa using this
  · rw [h3, hv.extract]; simp
section
variable {c : Cx} {ops : Array Oper}
theorem WR_skN {K : Exit → St → Prop} {Ls : List (Nat × Obj)} {m i j dg : Nat} {b : Bool} {og : Oper} {p : Plan} {o : Oper} {s : List (Nat × Value)} {D : List Deferred} {L : List (Nat × Obj)} {d : Nat} (ho : ops[i]? = some o) (h : WR c ops K Ls m p ⟨(d, undef) :: s, D, L⟩) (hg : o.guard = some (j, true) := by exact rfl) (hj : ops[j]? = some og := by exact rfl) (hdg : og.dst = some dg := by exact rfl) (hb : look s dg = some (.bool b) := by exact rfl) (he : b = false := by first | with_reducible assumption | with_reducible rfl | decide)
    (hdst : o.dst = some d := by exact rfl) (hd : Nat.blt d c.N = true := by exact rfl) (hL : ∀ q ∈ Ls, q ∈ L := by first | exact fun _ h => h | exact fun _ h => List.Sublist.subset (by repeat (first | exact .refl _ | exact List.nil_sublist _ | exact List.sublist_append_right _ _ | apply List.Sublist.cons_cons | apply List.Sublist.cons)) h) : WR c ops K Ls m (.must i p) ⟨s, D, L⟩ :=
  WR_opN (σ := ⟨s, D, L⟩) ho hg hj hdg hb (by rw [he]; rfl) (by rw [hdst]; exact hd) hL (by rw [hdst]; exact h)
end
theorem WC_wk {c : Cx} {code : Code} {K : Exit → St → Prop} {s0 : List (Nat × Value)} {D : List Deferred} {L : List (Nat × Obj)} (s : List (Nat × Value)) (hs : SubS s s0) (h : WC c code K ⟨s, D, L⟩) : WC c code K ⟨s0, D, L⟩ := WC_weaken (σ := ⟨s0, D, L⟩) s hs h
theorem arr_get {α : Type} {cs : Array α} {i : Nat} {v : α} (h : cs.toList[i]? = some v) : cs[i]? = some v := by simpa using h
theorem Qt_ld1B {c : Cx} {s : List (Nat × Value)} {L : List (Nat × Obj)} {o : Oper} {t b off : Nat} [TAgg c.P t false] {x : Operand} {cs : Array Value} {E : TypeId} {fr : Nat × Nat} {v : Value} (ho : o.op = .load t x) (hx : ev s x = some (.pointer (some ⟨b, off, none⟩)) := by exact rfl) (hi : ∃ i : Nat, L[i]? = some (b, .cells cs E fr) := by first | exact ⟨0, rfl⟩ | exact ⟨1, rfl⟩ | exact ⟨2, rfl⟩ | exact ⟨3, rfl⟩ | exact ⟨4, rfl⟩ | exact ⟨5, rfl⟩ | exact ⟨6, rfl⟩ | exact ⟨7, rfl⟩ | exact ⟨8, rfl⟩ | exact ⟨9, rfl⟩ | exact ⟨10, rfl⟩ | exact ⟨11, rfl⟩ | exact ⟨12, rfl⟩ | exact ⟨13, rfl⟩ | exact ⟨_, by with_reducible assumption⟩) (hv : cs[off]? = some v := by first | with_reducible assumption | exact arr_get rfl | rfl | assumption) : Qt c s L o v :=
  let ⟨i, h⟩ := hi; Qt_load1 ho hx i h hv
theorem Qt_buildB {c : Cx} {s : List (Nat × Value)} {L : List (Nat × Obj)} {o : Oper} {t : TypeId} {z : Array Value} {pl : List (Nat × Nat)} [hb : TBuild c.P t z pl] {parts : Array (Nat × Operand)} {vs : List (Nat × Value)} {cs : Array Value} (ho : o.op = .build t parts) (hx : evp s parts.toList = some vs := by exact rfl) (hf : Filled pl z vs cs := by repeat (first | exact rfl | refine ⟨_, _, rfl, (by first | with_reducible assumption | rfl | assumption), (by first | exact Nat.le_of_ble_eq_true rfl | omega), ?_⟩)) : Qt c s L o (.agg cs) :=
  Qt_build ho hx hf
end Go.Proofs.Ytmdiabglbmgkkaa
namespace Go.Proofs.Ytmdiabglbmgkkaa
open Go.RowKit
section
variable {c : Cx} {s : List (Nat × Value)} {L : List (Nat × Obj)} {o : Oper}
theorem Qt_neq_ifN {t t' : TypeId} {ms : Array (String × TypeId)} [hu : TUnd c.P t (.interface ms)] {x : Operand} {cv : Value} (ho : o.op = .binOp .neq t x (.const cv) t') (hx : ev s x = some .nilIface := by exact rfl) (hy : cv = .nilIface := by exact rfl) : Qt c s L o (.bool false) :=
  Qt_of_run (by simp [ho]) (fun ρ hρ w _ => by
    subst hy
    obtain ⟨h1, h2⟩ := run_equalIn_iface (P := c.P) w 9999 t hu.h
    have e : (binOp .neq t .nilIface .nilIface).run c.P w = .ok (.bool false) w := by simp only [binOp]; simp [Op.equal, Op.maxDepth, h1]
    simp [execOp, ho, hρ x _ hx, hρ (.const .nilIface) _ rfl, eqGuard, e])
end
theorem OW_text {c : Cx} {o : Oper} {Kn : St → Prop} {K : Exit → St → Prop} {s : List (Nat × Value)} {D : List Deferred} {L : List (Nat × Obj)} {t t' e d : TypeId} [hu : TUnd c.P t .string] [hu' : TUnd c.P t' (.slice e)] [he : TUnd c.P e (.int .u8)] {x : Operand} {l : List UInt8} (ho : o.op = .convert t t' x) (hlen : l.length ≤ 1000000000)
    (hk : ∀ (b cap : Nat) (cs : Array Value) (fr : Nat × Nat), l.length ≤ cap → cap ≤ maxLen → (∀ (j : Nat) (u : UInt8), l[j]? = some u → cs[j]? = some (bV u)) → Kn ⟨(d, .slice (some ⟨b, 0, none⟩) l.length cap) :: s, D, (b, .cells cs e fr) :: L⟩) (hdst : o.dst = some d := by exact rfl) (hx : ev s x = some (.string (bstr l)) := by exact rfl) (hd : Nat.blt d c.N = true := by exact rfl) : OW c o Kn K ⟨s, D, L⟩ := fun a w ha => by
  refine ⟨fun _ _ => trivial, ?_⟩
  have hr := run_bytes_of_string (P := c.P) w t t' e (bstr l) hu.h hu'.h he.h
  have hge := grownCap_ge w (bstr l).size 0 e
  have hcm := grownCap_le_maxLen w (bstr l).size 0 e (by rw [bstr_size]; simp only [maxLen]; omega)
  obtain ⟨cap', hcap'⟩ : ∃ q, grownCap w (bstr l).size 0 e = q := ⟨_, rfl⟩
  rw [hcap'] at hr hge hcm
  rw [bstr_size] at hr hge
  have hr' : (execOp a.eval o).run c.P w = .ok (.value (.slice (some ⟨w.heap.size, 0, none⟩) l.length cap')) (w.drew.alloc (.cells (bytesRow (bstr l) cap') e ((bytesRow (bstr l) cap').size, (bytesRow (bstr l) cap').size + 1))) := by
    simp [execOp, ho, ha.ev hx, hr]
  rw [Oper.semAt_eq _ _ _ (by rw [ho]; intro cc h; cases h), hr']
  refine ⟨_, ?_, hk w.heap.size cap' (bytesRow (bstr l) cap') ((bytesRow (bstr l) cap').size, (bytesRow (bstr l) cap').size + 1) hge hcm fun j u hu => ?_⟩
  · rw [hdst]
    exact (ha.mem' ((ha.mem.drew).alloc _)).put (d := some d) hd _
  · have hj := (List.getElem?_eq_some_iff.1 hu).1
    unfold bytesRow
    rw [Array.getElem?_append_left (by simpa [bstr] using hj)]
    simp [bstr, hu, bV]
def meetQ (Q : St → Prop) (σ : St) : Prop := ∃ σ', Q σ' ∧ SubS σ'.s σ.s ∧ σ'.D = σ.D ∧ σ'.L.Sublist σ.L
theorem meet_next {c : Cx} {Q : St → Prop} {z : Code} {K : Exit → St → Prop} (hB : ∀ σ, Q σ → WC c z K σ) (e : Exit) (σ : St) (h : thenK (meetQ Q) K e σ) : thenK (WC c z K) K e σ := by
  cases e with
  | normal =>
    obtain ⟨σ', hQ, hs, hD, hL⟩ := h
    exact WC_lessen hs hD hL (hB σ' hQ)
  | _ => exact h
theorem WC_meet {c : Cx} {x z : Code} {K : Exit → St → Prop} {σ : St} (Q : St → Prop) (hA : WC c x (thenK (meetQ Q) K) σ) (hB : ∀ σ, Q σ → WC c z K σ) : WC c x (thenK (WC c z K) K) σ :=
  WC_mono hA (meet_next hB)
theorem WC_meet2 {c : Cx} {x y z : Code} {K : Exit → St → Prop} {σ : St} (Q : St → Prop) (hA : WC c x (thenK (WC c y (thenK (meetQ Q) K)) (thenK (meetQ Q) K)) σ) (hB : ∀ σ, Q σ → WC c z K σ) : WC c x (thenK (WC c y (thenK (WC c z K) K)) (thenK (WC c z K) K)) σ :=
  WC_mono hA fun e σ h => by
    cases e with
    | normal => exact WC_mono h (meet_next hB)
    | _ => exact h
end Go.Proofs.Ytmdiabglbmgkkaa
namespace Go.Proofs.Ytmdiabglbmgkkaa
open Go.RowKit
def Buf (E sz : Nat) (v : Value) (T : List (Nat × Obj)) (n : Nat) (xs : List Value) : Prop :=
  (xs = [] ∧ n = 0 ∧ v = .slice none 0 0 ∧ T = []) ∨ ∃ (g off cap : Nat) (cur : Array Value), v = .slice (some ⟨g, off, none⟩) n cap ∧ T = [(g, .cells cur E (0, 0))] ∧ Own sz cur off cap n xs
theorem Buf.nil (E sz : Nat) : Buf E sz (.slice none 0 0) [] 0 [] := .inl ⟨rfl, rfl, rfl, rfl⟩
theorem Buf.vec {E sz : Nat} {v : Value} {T : List (Nat × Obj)} {n : Nat} {xs : List Value} (h : Buf E sz v T n xs) (A B : List (Nat × Obj)) : Vec sz (A ++ (T ++ B)) v n xs := by
  rcases h with ⟨rfl, rfl, rfl, rfl⟩ | ⟨g, off, cap, cur, rfl, rfl, h⟩
  · exact Vec.nil sz _
  · exact h.vec (E := E) (fr := (0, 0)) A.length (by simp)
theorem Buf.vec0 {E sz : Nat} {v : Value} {T : List (Nat × Obj)} {n : Nat} {xs : List Value} (h : Buf E sz v T n xs) (B : List (Nat × Obj)) : Vec sz (T ++ B) v n xs := h.vec [] B
theorem Buf.val {E sz : Nat} {v : Value} {T : List (Nat × Obj)} {n : Nat} {xs : List Value} (h : Buf E sz v T n xs) : ∃ a cap, v = .slice a n cap ∧ n ≤ cap ∧ cap ≤ maxLen := by
  rcases h with ⟨rfl, rfl, rfl, _⟩ | ⟨g, off, cap, cur, rfl, _, h⟩
  · exact ⟨_, _, rfl, Nat.le_refl _, by simp [maxLen]⟩
  · exact ⟨_, _, rfl, h.le, h.max⟩
theorem OW.permL {c : Cx} {o : Oper} {Kn : St → Prop} {K : Exit → St → Prop} {σ : St} (h : OW c o (fun σ' => ∃ L2 : List (Nat × Obj), L2.Perm σ'.L ∧ Kn ⟨σ'.s, σ'.D, L2⟩) K σ) : OW c o Kn K σ := fun a w ha =>
  Oper.wpIn_mono (fun _ _ ⟨_, h1, _, h2, h3⟩ => ⟨_, h1.mem' (h1.mem.perm h2), h3⟩) (h a w ha)
theorem OW_append_buf {c : Cx} {o : Oper} {Kn : St → Prop} {K : Exit → St → Prop} {s : List (Nat × Value)} {D : List Deferred} {A T B : List (Nat × Obj)} {t t2 E size by_ d : Nat} {z : Array Value} {x y : Operand} [hu : TUnd c.P t (.slice E)] [hrow : TRow c.P E z size by_]
    (ho : o.op = .call { callee := .builtin .append, args := #[x, y], argTypes := #[t, t2] }) (hdst : o.dst = some d) {v y' : Value} (hx : ev s x = some v) (hy : ev s y = some y') (hd : Nat.blt d c.N = true) {n m : Nat} {xs news : List Value} (hv : Buf E size v T n xs)
    (hs : SrcL c (A ++ (T ++ B)) size t2 y' m news) (hm : 0 < m) (hmax : n + m ≤ maxLen) (hby : (n + m) * by_ ≤ 140737488355328)
    (hk : ∀ v' T', Buf E size v' T' (n + m) (xs ++ news) → Kn ⟨(d, v') :: s, D, A ++ (T' ++ B)⟩) : OW c o Kn K ⟨s, D, A ++ (T ++ B)⟩ := by
  refine OW.permL ?_
  rcases hv with ⟨rfl, rfl, rfl, rfl⟩ | ⟨g, off, cap, cur, rfl, rfl, h⟩
  · refine OW_append_new ho hdst hx hy hd (Vec.nil size _) hs (by omega) hmax hby fun b cap' cur' h' => ?_
    refine ⟨A ++ ([(b, .cells cur' E (0, 0))] ++ B), ?_, hk _ _ (.inr ⟨b, 0, cap', cur', rfl, rfl, h'⟩)⟩
    simp only [List.nil_append, List.singleton_append]
    exact List.perm_middle
  · have hi : (A ++ ([(g, Obj.cells cur E (0, 0))] ++ B))[A.length]? = some (g, .cells cur E (0, 0)) := by simp
    refine OW_append_own ho hdst hx hy hd A.length hi h hs hmax hby fun b off' cap' cur' h' => ?_
    refine ⟨_, .refl _, ?_⟩
    have e : (A ++ ([(g, Obj.cells cur E (0, 0))] ++ B)).set A.length (b, .cells cur' E (0, 0)) = A ++ ([(b, .cells cur' E (0, 0))] ++ B) := by simp
    simp only [e]
    exact hk _ _ (.inr ⟨b, off', cap', cur', rfl, rfl, h'⟩)
theorem src1 {c : Cx} {L : List (Nat × Obj)} {t2 e b E : Nat} {u : Value} [hu : TUnd c.P t2 (.slice e)] (i : Nat) (hi : L[i]? = some (b, .cells #[u] E (0, 0))) (h1 : u.oneCell' = true := by rfl) : SrcL c L 1 t2 (.slice (some ⟨b, 0, none⟩) 1 1) 1 [u] :=
  srcVec ⟨rfl, _, _, rfl, Nat.le_refl _, by decide, .inr ⟨_, _, _, _, _, i, rfl, hi, fun j x hx => by
    cases j with
    | zero => simpa using hx
    | succ j => simp at hx⟩⟩ (by intro v hv; simp at hv; subst hv; exact h1)
theorem WC_dropL {c : Cx} {code : Code} {K : Exit → St → Prop} {s : List (Nat × Value)} {D : List Deferred} {L : List (Nat × Obj)} (L' : List (Nat × Obj)) (hs : L'.Sublist L) (h : WC c code K ⟨s, D, L'⟩) : WC c code K ⟨s, D, L⟩ := WC_drop (σ := ⟨s, D, L⟩) hs h
end Go.Proofs.Ytmdiabglbmgkkaa
namespace Go.Proofs.Ytmdiabglbmgkkaa
open Go.RowKit
theorem OW_append_nothing {c : Cx} {o : Oper} {Kn : St → Prop} {K : Exit → St → Prop} {s : List (Nat × Value)} {D : List Deferred} {L : List (Nat × Obj)} {t t2 E size by_ d : Nat} {z : Array Value} {x y : Operand} [hu : TUnd c.P t (.slice E)] [hrow : TRow c.P E z size by_]
    (ho : o.op = .call { callee := .builtin .append, args := #[x, y], argTypes := #[t, t2] }) (hdst : o.dst = some d) {a : Option Addr} {n cap : Nat} (hx : ev s x = some (.slice a n cap)) {y' : Value} (hy : ev s y = some y') (hd : Nat.blt d c.N = true) (hle : n ≤ cap)
    (hs : SrcL c L size t2 y' 0 []) (hk : Kn ⟨(d, .slice a n cap) :: s, D, L⟩) : OW c o Kn K ⟨s, D, L⟩ := fun ac w ha => by
  refine ⟨fun _ _ => trivial, ?_⟩
  obtain ⟨ii, zz, r1, r2, r3, r4, r5, r6⟩ := hrow.h
  have hsr := hs w ha.mem
  have hr := run_append_nothing (P := c.P) w t t2 o.type E ii hu.h r1 a n cap hle y' (by rw [r4]; exact hsr)
  have hr' : (execOp ac.eval o).run c.P w = .ok (.value (.slice a n cap)) w := by
    simp [execOp, ho, resolve, invoke, builtin, ha.ev hx, ha.ev hy, hr]
  rw [Oper.semAt_eq _ _ _ (by rw [ho]; intro cc h; cases h), hr']
  refine ⟨_, ?_, hk⟩
  rw [hdst]
  exact ha.put (d := some d) hd _
theorem OW_append_bufM {c : Cx} {o : Oper} {Kn : St → Prop} {K : Exit → St → Prop} {s : List (Nat × Value)} {D : List Deferred} {A T B : List (Nat × Obj)} {t t2 E size by_ d : Nat} {z : Array Value} {x y : Operand} [hu : TUnd c.P t (.slice E)] [hrow : TRow c.P E z size by_]
    (ho : o.op = .call { callee := .builtin .append, args := #[x, y], argTypes := #[t, t2] }) (hdst : o.dst = some d) {v y' : Value} (hx : ev s x = some v) (hy : ev s y = some y') (hd : Nat.blt d c.N = true) {n m : Nat} {xs news : List Value} (hv : Buf E size v T n xs)
    (hs : SrcL c (A ++ (T ++ B)) size t2 y' m news) (hl : news.length = m * size) (hmax : n + m ≤ maxLen) (hby : (n + m) * by_ ≤ 140737488355328)
    (hk : ∀ v' T', Buf E size v' T' (n + m) (xs ++ news) → Kn ⟨(d, v') :: s, D, A ++ (T' ++ B)⟩) : OW c o Kn K ⟨s, D, A ++ (T ++ B)⟩ := by
  rcases Nat.eq_zero_or_pos m with rfl | hm
  · obtain rfl : news = [] := List.eq_nil_of_length_eq_zero (by omega)
    obtain ⟨a, cap, rfl, hle, _⟩ := hv.val
    refine OW_append_nothing ho hdst hx hy hd hle hs (hk _ _ ?_)
    simpa using hv
  · exact OW_append_buf ho hdst hx hy hd hv hs hm hmax hby hk
theorem Own.take {sz : Nat} {cur : Array Value} {off cap n : Nat} {xs : List Value} (h : Own sz cur off cap n xs) {k cap' : Nat} (hk : k ≤ n) (hc : k ≤ cap') (hc' : cap' ≤ cap) : Own sz cur off cap' k (xs.take (k * sz)) where
  len := by have := h.len; have := Nat.mul_le_mul_right sz hk; rw [List.length_take]; omega
  le := hc
  max := Nat.le_trans hc' h.max
  fit := Nat.le_trans (Nat.add_le_add_left (Nat.mul_le_mul_right sz hc') _) h.fit
  at_ j x hj := by
    rw [List.getElem?_take] at hj
    split at hj
    · exact h.at_ j x hj
    · cases hj
end Go.Proofs.Ytmdiabglbmgkkaa
namespace Go.Proofs.Ytmdiabglbmgkkaa
open Go.RowKit
theorem QW_a {c : Cx} {s : List (Nat × Value)} {L : List (Nat × Obj)} {o : Oper} {κ : Value → Prop} {v : Value} (hk : κ v) (h : Qt c s L o v := by first
    | exact Qt_move rfl | exact Qt_assign rfl | exact Qt_nilCheck rfl | exact Qt_fieldAddr0 rfl | exact Qt_fieldAddr rfl | exact Qt_ld1B rfl | exact Qt_extract rfl
    | exact Qt_lenB rfl | exact Qt_lenSl rfl | exact Qt_eqlStr rfl | exact Qt_neqStr rfl | exact Qt_geqStr rfl | exact Qt_cat rfl | exact Qt_bin rfl | exact Qt_pick_true rfl | exact Qt_pick_false rfl | exact Qt_not rfl
    | exact Qt_indexArr0 rfl | exact Qt_indexSl0 rfl | exact Qt_indexArr rfl | exact Qt_indexSl rfl | exact Qt_convInt rfl | exact Qt_ldA rfl | exact Qt_ldN rfl
    | exact Qt_eql_nilS rfl | exact Qt_eql_nilN rfl | exact Qt_neq_nilS rfl | exact Qt_neq_nilN rfl | exact Qt_eql_ifN rfl | exact Qt_eql_ifS rfl | exact Qt_neq_ifN rfl | exact Qt_neq_ifS rfl | exact Qt_eql_bool rfl | exact Qt_neq_bool rfl
    | exact Qt_rem rfl | exact Qt_quo rfl | exact Qt_shl rfl | exact Qt_shr rfl | exact Qt_and rfl | exact Qt_or rfl | exact Qt_xor rfl | exact Qt_neg rfl | exact Qt_min rfl | exact Qt_max rfl
    | exact Qt_cutB rfl | exact Qt_cutToB rfl | exact Qt_cutFromB rfl | exact Qt_indexB rfl | exact Qt_arrFrom rfl | exact Qt_sliceL rfl | exact Qt_slTo rfl | exact Qt_slLHM rfl
    | exact Qt_str1 rfl | exact Qt_str rfl (hv := own_by0 (by with_reducible assumption)) | exact Qt_str rfl | exact Qt_buildB rfl | exact Qt_makeFunc rfl | exact Qt_makeInterface rfl | exact Qt_typeAssert rfl | exact Qt_nilCheck_fn rfl) : QW c s L o κ := ⟨v, h, hk⟩
theorem sub_mem {A B : List (Nat × Obj)} (h : A.Sublist B) : ∀ q ∈ A, q ∈ B := fun _ hq => h.subset hq
theorem OE {P G : Prop} (h : G) (s : G → P := by first | exact fun h => OW_alloc rfl (hk := h) | exact fun h => OW_box rfl (hk := h) | exact fun h => OW_st1 rfl h | exact fun h => OW_stA rfl h | exact fun h => OW_stN rfl h | exact fun h => OW_build0 rfl (hk := h) | exact fun h => OW_build1 rfl (hk := h)) : P := s h
end Go.Proofs.Ytmdiabglbmgkkaa
namespace Go.Proofs.Ytmdiabglbmgkkaa
open Go.RowKit
def WCn (c : Cx) (x : Code) (K : Exit → St → Prop) : Nat → St → Prop
  | 0, _ => False
  | m + 1, σ => WC c x (thenK (WCn c x K m) K) σ
theorem WCn.rounds {c : Cx} {x : Code} {K : Exit → St → Prop} : ∀ {m : Nat} {σ : St}, WCn c x K m σ → ∀ a w, Holds c.g c.N σ a w → Code.roundsIn (Fw c.r) c.n c.P x (lift c K) m a w
  | 0, _, h, _, _, _ => h.elim
  | m + 1, σ, h, a, w, ha => by
    rw [roundsIn_succ]
    refine Go.wpIn_mono ((show WC c x (thenK (WCn c x K m) K) σ from h) a w ha) fun e a' w' hl => ?_
    obtain ⟨σ', h1, h2⟩ := hl
    cases e with
    | normal => exact WCn.rounds (m := m) h2 a' w' h1
    | _ => exact ⟨σ', h1, h2⟩
theorem WC_unroll {c : Cx} {x : Code} {K : Exit → St → Prop} {σ : St} (m : Nat) (h : WCn c x K m σ) : WC c (.loop x) K σ := fun a w ha => wpIn_loop_rounds m (h.rounds a w ha)
theorem WCn_s {c : Cx} {x : Code} {K : Exit → St → Prop} {m : Nat} {σ : St} (h : WC c x (thenK (WCn c x K m) K) σ) : WCn c x K (m + 1) σ := h
def FilledA (n : Nat) : Array Value → List (Nat × Value) → Array Value → Prop
  | z, [], cs => cs = z
  | z, (i, v) :: r, cs => v.cells.size = n ∧ i * n + n ≤ z.size ∧ FilledA n (putR z (i * n) v.cells) r cs
theorem fill_of_FilledA {n : Nat} : ∀ {parts : List (Nat × Value)} {z cs : Array Value}, FilledA n z parts cs → Instr.fill (fun i => some (i * n, n)) z parts = some cs
  | [], z, cs, h => by cases h; rfl
  | (i, v) :: r, z, cs, ⟨h2, h3, h4⟩ => by
    simp only [Instr.fill]
    rw [if_neg (by simp [h2]; omega)]
    have hf := fold_put v.cells.toList 0 (i * n) z (by simp; omega)
    have he : (v.cells.zipIdx.foldl (fun (cs : Array Value) (p : Value × Nat) => cs.setIfInBounds (i * n + p.2) p.1) z) = putR z (i * n) v.cells := by
      rw [← Array.foldl_toList, Array.toList_zipIdx, hf]
      simp
    have hh := fill_of_FilledA h4
    rw [← he] at hh
    exact hh
end Go.Proofs.Ytmdiabglbmgkkaa
namespace Go.Proofs.Ytmdiabglbmgkkaa
open Go.RowKit
def aGet (m : List (Int × Value)) (x : Int) : Option Value := match m with
  | [] => none
  | p :: r => if x = p.1 then some p.2 else aGet r x
def aPut (m : List (Int × Value)) (x : Int) (v : Value) : List (Int × Value) := match m with
  | [] => [(x, v)]
  | p :: r => if x = p.1 then (x, v) :: r else p :: aPut r x v
theorem aGet_put (m : List (Int × Value)) (x y : Int) (v : Value) : aGet (aPut m x v) y = if y = x then some v else aGet m y := by
  induction m with
  | nil => simp [aPut, aGet]
  | cons p r ih =>
    simp only [aPut]
    by_cases h : x = p.1
    · rw [if_pos h]; simp only [aGet]
      by_cases hy : y = x
      · simp [hy]
      · rw [if_neg hy, if_neg hy, if_neg (by omega)]
    · rw [if_neg h]; simp only [aGet]
      by_cases hy : y = p.1
      · rw [if_pos hy, if_pos hy, if_neg (by omega)]
      · rw [if_neg hy, if_neg hy, ih]
theorem aPut_none {m : List (Int × Value)} {x : Int} {v : Value} (h : aGet m x = none) : aPut m x v = m ++ [(x, v)] := by
  induction m with
  | nil => rfl
  | cons p r ih =>
    simp only [aGet] at h
    split at h
    · cases h
    · rename_i hp; simp only [aPut, if_neg hp, ih h, List.cons_append]
def Ents (k : IntKind) (es : List MapEntry) (m : List (Int × Value)) : Prop := es.map (fun e => (e.key, e.val)) = m.map fun p => (.int k p.1, p.2)
theorem Ents_find {P : Program} {kt : TypeId} {k k' : IntKind} : ∀ {es : List MapEntry} {m : List (Int × Value)} {x : Int} (i : Nat), Ents k es m →
    (aGet m x = none ∧ Fnd P kt (.int k') (.int k x) es i none) ∨ ∃ v j e, aGet m x = some v ∧ Fnd P kt (.int k') (.int k x) es i (some (i + j, v)) ∧ es[j]? = some e ∧ e.val = v ∧ e.key = .int k x ∧ ∀ v', Ents k (es.set j { e with key := .int k x, val := v' }) (aPut m x v')
  | [], m, x, i, h => by
    have : m = [] := by cases m with | nil => rfl | cons p r => simp [Ents] at h
    subst this
    exact .inl ⟨rfl, Fnd_nil _ _ _⟩
  | e :: es, m, x, i, h => by
    cases m with
    | nil => simp [Ents] at h
    | cons p r =>
      simp only [Ents, List.map_cons, List.cons.injEq, Prod.mk.injEq] at h
      obtain ⟨⟨hk, hv⟩, hr⟩ := h
      by_cases hx : x = p.1
      · right
        subst hx
        refine ⟨p.2, 0, e, by simp [aGet], ?_, rfl, hv, hk, fun v' => ?_⟩
        · have hs : sameX P kt (.int k') (.int k p.1) (.int k p.1) = some true := by simp [sameX, V.scal, Instr.sameNow]
          have := Fnd_hit (P := P) (kt := kt) (bs := []) hs (.int k p.1) (by rw [hk]; exact .int k p.1) es i
          rw [hv] at this; exact this
        · simp only [aPut, if_true, List.set_cons_zero, Ents, List.map_cons]
          rw [show es.map (fun e => (e.key, e.val)) = r.map (fun p => (Value.int k p.1, p.2)) from hr]
      · have hs : sameX P kt (.int k') (.int k x) (.int k p.1) = some false := by simp [sameX, V.scal, Instr.sameNow, hx]
        rcases Ents_find (P := P) (kt := kt) (k' := k') (x := x) (i + 1) (show Ents k es r from hr) with ⟨h1, h2⟩ | ⟨v, j, e', h1, h2, h3, h4, h5, h6⟩
        · exact .inl ⟨by simp [aGet, hx, h1], Fnd_skip hs (bs := []) (.int k x) (by rw [hk]; exact .int k p.1) h2⟩
        · refine .inr ⟨v, j + 1, e', by simp [aGet, hx, h1], ?_, by simpa using h3, h4, h5, fun v' => ?_⟩
          · have := Fnd_skip hs (bs := []) (.int k x) (by rw [hk]; exact .int k p.1) h2
            rwa [show i + 1 + j = i + (j + 1) by omega] at this
          · have := h6 v'
            simp only [aPut, if_neg hx, List.set_cons_succ, Ents, List.map_cons, hk, hv]
            rw [show _ = _ from this]
section
variable {c : Cx} {o : Oper} {Kn : St → Prop} {K : Exit → St → Prop} {s : List (Nat × Value)} {D : List Deferred} {L : List (Nat × Obj)}
theorem OW_makeMap {t d : TypeId} (ho : o.op = .makeMap t none) (hk : ∀ b, Kn ⟨(d, .map (some b)) :: s, D, (b, .map #[] 0) :: L⟩) (hdst : o.dst = some d := by exact rfl) (hd : Nat.blt d c.N = true := by exact rfl) : OW c o Kn K ⟨s, D, L⟩ := fun a w ha => by
  refine ⟨fun _ _ => trivial, ?_⟩
  have hr : (execOp a.eval o).run c.P w = .ok (.value (.map (some w.heap.size))) (w.alloc (.map #[] 0)) := by
    have := run_makeMap (P := c.P) t w
    simp [execOp, ho, this]
  rw [Oper.semAt_eq _ _ _ (by rw [ho]; intro cc h; cases h), hr]
  refine ⟨_, ?_, hk w.heap.size⟩
  rw [hdst]
  exact (ha.mem' (ha.mem.alloc _)).put (d := some d) hd _
theorem Qt_lookup {t kt vt : TypeId} {k k' : IntKind} {z : Value} [hu : TUnd c.P t (.map kt vt)] [hk' : TUnd c.P kt (.int k')] [hz : TZero c.P vt z] {m x : Operand} {b cl i : Nat} {es : Array MapEntry} {ps : List (Int × Value)} {n : Int} (ho : o.op = .lookup t m x false) (hi : L[i]? = some (b, .map es cl)) (he : Ents k es.toList ps) (hm : ev s m = some (.map (some b)) := by exact rfl) (hx : ev s x = some (.int k n) := by exact rfl) : Qt c s L o ((aGet ps n).getD z) :=
  Qt_of_run (by simp [ho]) (fun ρ hρ w hmem => by
    have hkey : keyX c.P kt (.int k') (.int k n) = true := rfl
    rcases Ents_find (P := c.P) (kt := kt) (k' := k') (x := n) 0 he with ⟨h1, h2⟩ | ⟨v0, j, e, h1, h2, h3, h4, h5, h6⟩
    · have hfk := Fnd_run hk'.h h2 w
      rw [h1]
      simp [execOp, ho, hρ m _ hm, hρ x _ hx, Instr.lookup, run_underlying hu.h, Go.MapKept.run_getObj_map (hmem.at_ hi), keyX_run (bs := []) hk'.h hkey (.int k n), hfk, hz.h]
    · have hfk := Fnd_run hk'.h h2 w
      rw [h1]
      simp [execOp, ho, hρ m _ hm, hρ x _ hx, Instr.lookup, run_underlying hu.h, Go.MapKept.run_getObj_map (hmem.at_ hi), keyX_run (bs := []) hk'.h hkey (.int k n), hfk])
end
end Go.Proofs.Ytmdiabglbmgkkaa
namespace Go.Proofs.Ytmdiabglbmgkkaa
open Go.RowKit
structure MapI (k : IntKind) (es : Array MapEntry) (cl : Nat) (ps : List (Int × Value)) : Prop where
  ents : Ents k es.toList ps
  keys : (ps.map Prod.fst).Nodup
  born : (es.toList.map (·.born)).Nodup
  below : ∀ e ∈ es.toList, e.born < cl
theorem MapI.empty (k : IntKind) : MapI k #[] 0 [] := ⟨rfl, .nil, .nil, nofun⟩
def aDel (m : List (Int × Value)) (x : Int) : List (Int × Value) := m.filter fun p => decide (p.1 ≠ x)
theorem aGet_none {m : List (Int × Value)} {x : Int} : aGet m x = none ↔ x ∉ m.map Prod.fst := by
  induction m with
  | nil => simp [aGet]
  | cons p r ih =>
    simp only [aGet, List.map_cons, List.mem_cons]
    by_cases h : x = p.1
    · rw [if_pos h]; simp [h]
    · rw [if_neg h, ih]; simp [h]
theorem aPut_keys {m : List (Int × Value)} {x : Int} {v : Value} (hn : (m.map Prod.fst).Nodup) : ((aPut m x v).map Prod.fst).Nodup := by
  induction m with
  | nil => simp [aPut]
  | cons p r ih =>
    obtain ⟨h1, h2⟩ := List.nodup_cons.1 hn
    simp only [aPut]
    by_cases h : x = p.1
    · rw [if_pos h]
      exact List.nodup_cons.2 ⟨by rw [h]; exact h1, h2⟩
    · rw [if_neg h]
      refine List.nodup_cons.2 ⟨fun hm => ?_, ih h2⟩
      obtain ⟨q, hq, e⟩ := List.mem_map.1 hm
      have : aGet (aPut r x v) p.1 ≠ none := fun hz => aGet_none.1 hz (List.mem_map.2 ⟨q, hq, e⟩)
      rw [aGet_put, if_neg (by omega)] at this
      exact this (aGet_none.2 h1)
theorem aDel_keys {m : List (Int × Value)} {x : Int} (hn : (m.map Prod.fst).Nodup) : ((aDel m x).map Prod.fst).Nodup := hn.sublist ((List.filter_sublist).map _)
theorem Ents_erase {k : IntKind} : ∀ {es : List MapEntry} {m : List (Int × Value)} {x : Int} {j : Nat} {e : MapEntry}, Ents k es m → (m.map Prod.fst).Nodup → es[j]? = some e → e.key = .int k x → Ents k (es.eraseIdx j) (aDel m x)
  | [], _, _, _, _, _, _, hj, _ => by simp at hj
  | e :: es, [], _, _, _, h, _, _, _ => by simp [Ents] at h
  | e :: es, p :: r, x, j, e', h, hn, hj, hk => by
    obtain ⟨h1, h2⟩ := List.nodup_cons.1 hn
    simp only [Ents, List.map_cons, List.cons.injEq, Prod.mk.injEq] at h
    obtain ⟨⟨hkk, hv⟩, hr⟩ := h
    cases j with
    | zero =>
      obtain rfl : e = e' := by simpa using hj
      rw [hkk] at hk
      have hx : p.1 = x := by simpa using hk
      have hno : r.filter (fun p => decide (p.1 ≠ x)) = r := List.filter_eq_self.2 fun q hq => by
        have : q.1 ≠ x := fun e => h1 (List.mem_map.2 ⟨q, hq, by rw [e, hx]⟩)
        simpa using this
      unfold aDel
      rw [List.filter_cons_of_neg (by simp [hx]), hno]
      exact hr
    | succ j =>
      have ih := Ents_erase (k := k) (x := x) (j := j) (e := e') (show Ents k es r from hr) h2 (by simpa using hj) hk
      have hx : p.1 ≠ x := fun ex => h1 (by
        have hj' : es[j]? = some e' := by simpa using hj
        have hm : (e'.key, e'.val) ∈ r.map fun p => (Value.int k p.1, p.2) := by
          rw [← hr]
          exact List.mem_map.2 ⟨e', List.mem_of_getElem? hj', rfl⟩
        obtain ⟨q, hq, hqe⟩ := List.mem_map.1 hm
        have : Value.int k q.1 = .int k x := (congrArg Prod.fst hqe).trans hk
        have : q.1 = x := by simpa using this
        exact List.mem_map.2 ⟨q, hq, by rw [this, ex]⟩)
      unfold aDel at ih ⊢
      rw [List.filter_cons_of_pos (by simp [hx]), List.eraseIdx_cons_succ]
      simp only [Ents, List.map_cons, hkk, hv]
      rw [show _ = _ from ih]
theorem modify_born {es : Array MapEntry} {j : Nat} {n : Value} {v : Value} : ((es.modify j fun e => { e with key := n, val := v }).toList.map (·.born)) = es.toList.map (·.born) := by
  apply List.ext_getElem?
  intro q
  simp only [List.getElem?_map, Array.getElem?_toList, Array.getElem?_modify]
  by_cases h : j = q
  · subst h
    rw [if_pos rfl]
    cases es[j]? <;> rfl
  · rw [if_neg h]
section
variable {c : Cx} {o : Oper} {Kn : St → Prop} {K : Exit → St → Prop} {s : List (Nat × Value)} {D : List Deferred} {L : List (Nat × Obj)}
theorem OW_mapPut {t kt vt : TypeId} {k k' : IntKind} [hu : TUnd c.P t (.map kt vt)] [hk' : TUnd c.P kt (.int k')] {m x y : Operand} {b cl i : Nat} {es : Array MapEntry} {ps : List (Int × Value)} {n : Int} {v : Value} (ho : o.op = .mapUpdate t m x y) (hm : ev s m = some (.map (some b))) (hx : ev s x = some (.int k n)) (hy : ev s y = some v) (hi : L[i]? = some (b, .map es cl)) (he : MapI k es cl ps)
    (hK : ∀ es' cl', MapI k es' cl' (aPut ps n v) → Kn ⟨s, D, L.set i (b, .map es' cl')⟩) (hdst : o.dst = none := by exact rfl) : OW c o Kn K ⟨s, D, L⟩ := by
  have fin : ∀ (es2 : Array MapEntry) (cl2 : Nat), MapI k es2 cl2 (aPut ps n v) → (∀ a w, Holds c.g c.N ⟨s, D, L⟩ a w → (execOp a.eval o).run c.P w = .ok .skip (w.putObj b (.map es2 cl2))) → OW c o Kn K ⟨s, D, L⟩ := by
    intro es2 cl2 hm hrun a w ha
    refine ⟨fun _ _ => trivial, ?_⟩
    rw [Oper.semAt_eq _ _ _ (by rw [ho]; intro cc h; cases h), hrun a w ha]
    refine ⟨_, ?_, hK es2 cl2 hm⟩
    rw [hdst]; exact ha.mem' (ha.mem.putObj hi _)
  have hkey : keyX c.P kt (.int k') (.int k n) = true := rfl
  rcases Ents_find (P := c.P) (kt := kt) (k' := k') (x := n) 0 he.ents with ⟨h1, h2⟩ | ⟨v0, j, e, h1, h2, h3, h4, h5, h6⟩
  · refine fin (es.push { key := .int k n, val := v, born := cl }) (cl + 1) ⟨?_, aPut_keys he.keys, ?_, ?_⟩ fun a w ha => ?_
    · have e := aPut_none (v := v) h1
      rw [e]
      simp only [Ents, Array.toList_push, List.map_append, List.map_cons, List.map_nil]
      rw [show _ = _ from he.ents]
    · rw [Array.toList_push, List.map_append, List.nodup_append]
      refine ⟨he.born, by simp, fun a ha b hb => ?_⟩
      obtain ⟨e, hem, rfl⟩ := List.mem_map.1 ha
      have := he.below e hem
      simp at hb
      omega
    · intro e hem
      rw [Array.toList_push] at hem
      rcases List.mem_append.1 hem with h | h
      · have := he.below e h; omega
      · obtain rfl : e = _ := by simpa using h
        exact Nat.lt_succ_self _
    · have hfk := Fnd_run hk'.h h2 w
      simp [execOp, ho, ha.ev hm, ha.ev hx, ha.ev hy, Instr.mapUpdate, run_underlying hu.h, Go.MapKept.run_getObj_map (ha.mem.at_ hi), keyX_run (bs := []) hk'.h hkey (.int k n), hfk, Go.MapKept.run_setObj_map _ (ha.mem.at_ hi), World.putObj]
  · have hj : es[j]? = some e := by simpa using h3
    have hlist : (es.modify j fun e => { e with key := .int k n, val := v }).toList = es.toList.set j { e with key := .int k n, val := v } := by
      apply List.ext_getElem?
      intro q
      rw [Array.getElem?_toList, Array.getElem?_modify, List.getElem?_set, Array.getElem?_toList]
      by_cases hq : j = q
      · subst hq
        have hlt := (Array.getElem?_eq_some_iff.1 hj).1
        rw [if_pos rfl, if_pos rfl, if_pos (by simpa using hlt), hj]; rfl
      · rw [if_neg hq, if_neg hq]
    refine fin (es.modify j fun e => { e with key := .int k n, val := v }) cl ⟨?_, aPut_keys he.keys, ?_, ?_⟩ fun a w ha => ?_
    · rw [hlist]; exact h6 v
    · rw [modify_born]; exact he.born
    · intro e' hem
      have : e'.born ∈ (es.modify j fun e => { e with key := .int k n, val := v }).toList.map (·.born) := List.mem_map.2 ⟨e', hem, rfl⟩
      rw [modify_born] at this
      obtain ⟨e2, h2', h3'⟩ := List.mem_map.1 this
      rw [← h3']
      exact he.below e2 h2'
    · have hfk := Fnd_run hk'.h h2 w
      have hs : sameX c.P kt (.int k') (.int k n) (.int k n) = some true := by simp [sameX, V.scal, Instr.sameNow]
      have hks := keyThatStays_run (P := c.P) (bs := []) hs (.int k n) (p' := e.key) (by rw [h5]; exact .int k n) w
      simp only [Nat.zero_add] at hfk
      simp [execOp, ho, ha.ev hm, ha.ev hx, ha.ev hy, Instr.mapUpdate, run_underlying hu.h, Go.MapKept.run_getObj_map (ha.mem.at_ hi), keyX_run (bs := []) hk'.h hkey (.int k n), hfk, hj, hks, Go.MapKept.run_setObj_map _ (ha.mem.at_ hi), World.putObj]
theorem OW_mapDel {t kt kt' vt : TypeId} {k k' : IntKind} [hu : TUnd c.P t (.map kt vt)] [hk' : TUnd c.P kt (.int k')] {m x : Operand} {b cl i : Nat} {es : Array MapEntry} {ps : List (Int × Value)} {n : Int} (ho : o.op = .call { callee := .builtin .delete, args := #[m, x], argTypes := #[t, kt'] }) (hm : ev s m = some (.map (some b))) (hx : ev s x = some (.int k n)) (hi : L[i]? = some (b, .map es cl)) (he : MapI k es cl ps)
    (hK : ∀ es', MapI k es' cl (aDel ps n) → Kn ⟨s, D, L.set i (b, .map es' cl)⟩) (hdst : o.dst = none := by exact rfl) : OW c o Kn K ⟨s, D, L⟩ := by
  have fin : ∀ (es2 : Array MapEntry), MapI k es2 cl (aDel ps n) → (∀ a w, Holds c.g c.N ⟨s, D, L⟩ a w → (execOp a.eval o).run c.P w = .ok (.value (.tuple #[])) (w.putObj b (.map es2 cl))) → OW c o Kn K ⟨s, D, L⟩ := by
    intro es2 hm hrun a w ha
    refine ⟨fun _ _ => trivial, ?_⟩
    rw [Oper.semAt_eq _ _ _ (by rw [ho]; intro cc h; cases h), hrun a w ha]
    refine ⟨_, ?_, hK es2 hm⟩
    rw [hdst]; exact ha.mem' (ha.mem.putObj hi _)
  have hkey : keyX c.P kt (.int k') (.int k n) = true := rfl
  rcases Ents_find (P := c.P) (kt := kt) (k' := k') (x := n) 0 he.ents with ⟨h1, h2⟩ | ⟨v0, j, e, h1, h2, h3, h4, h5, h6⟩
  · have hsame : aDel ps n = ps := List.filter_eq_self.2 fun q hq => by
      have : q.1 ≠ n := fun e => aGet_none.1 h1 (List.mem_map.2 ⟨q, hq, e⟩)
      simpa using this
    refine fin es (by rw [hsame]; exact he) fun a w ha => ?_
    have hfk := Fnd_run hk'.h h2 w
    simp [execOp, ho, resolve, invoke, builtin, ha.ev hm, ha.ev hx, Builtin.delete_, run_underlying hu.h, Go.MapKept.run_getObj_map (ha.mem.at_ hi), keyX_run (bs := []) hk'.h hkey (.int k n), hfk, Go.MapKept.run_setObj_map _ (ha.mem.at_ hi), World.putObj]
  · have hj : es[j]? = some e := by simpa using h3
    have hjl : j < es.size := (Array.getElem?_eq_some_iff.1 hj).1
    have hlist : (es.eraseIdxIfInBounds j).toList = es.toList.eraseIdx j := by
      unfold Array.eraseIdxIfInBounds
      rw [dif_pos hjl]
      simp
    refine fin (es.eraseIdxIfInBounds j) ⟨by rw [hlist]; exact Ents_erase he.ents he.keys h3 h5, aDel_keys he.keys, ?_, ?_⟩ fun a w ha => ?_
    · rw [hlist]
      exact he.born.sublist ((List.eraseIdx_sublist ..).map _)
    · intro e' hem
      rw [hlist] at hem
      exact he.below e' ((List.eraseIdx_sublist ..).subset hem)
    · have hfk := Fnd_run hk'.h h2 w
      simp only [Nat.zero_add] at hfk
      simp [execOp, ho, resolve, invoke, builtin, ha.ev hm, ha.ev hx, Builtin.delete_, run_underlying hu.h, Go.MapKept.run_getObj_map (ha.mem.at_ hi), keyX_run (bs := []) hk'.h hkey (.int k n), hfk, Go.MapKept.run_setObj_map _ (ha.mem.at_ hi), World.putObj]
theorem Qt_lookC {t kt vt : TypeId} {k k' : IntKind} {z : Value} [hu : TUnd c.P t (.map kt vt)] [hk' : TUnd c.P kt (.int k')] [hz : TZero c.P vt z] {m x : Operand} {b cl i : Nat} {es : Array MapEntry} {ps : List (Int × Value)} {n : Int} (ho : o.op = .lookup t m x true) (hi : L[i]? = some (b, .map es cl)) (he : MapI k es cl ps) (hm : ev s m = some (.map (some b)) := by exact rfl) (hx : ev s x = some (.int k n) := by exact rfl) : Qt c s L o (.tuple #[(aGet ps n).getD z, .bool (aGet ps n).isSome]) :=
  Qt_of_run (by simp [ho]) (fun ρ hρ w hmem => by
    have hkey : keyX c.P kt (.int k') (.int k n) = true := rfl
    rcases Ents_find (P := c.P) (kt := kt) (k' := k') (x := n) 0 he.ents with ⟨h1, h2⟩ | ⟨v0, j, e, h1, h2, h3, h4, h5, h6⟩
    · have hfk := Fnd_run hk'.h h2 w
      rw [h1]
      simp [execOp, ho, hρ m _ hm, hρ x _ hx, Instr.lookup, run_underlying hu.h, Go.MapKept.run_getObj_map (hmem.at_ hi), keyX_run (bs := []) hk'.h hkey (.int k n), hfk, hz.h]
    · have hfk := Fnd_run hk'.h h2 w
      rw [h1]
      simp [execOp, ho, hρ m _ hm, hρ x _ hx, Instr.lookup, run_underlying hu.h, Go.MapKept.run_getObj_map (hmem.at_ hi), keyX_run (bs := []) hk'.h hkey (.int k n), hfk])
def IterI (k : IntKind) (es : Array MapEntry) (seen : Array Nat) (todo : List (Int × Value)) : Prop := Ents k (leftOf es seen).toList todo
theorem OW_rangeMap {t kt vt d : TypeId} {k : IntKind} [hu : TUnd c.P t (.map kt vt)] {m : Operand} {b cl i : Nat} {es : Array MapEntry} {ps : List (Int × Value)} (ho : o.op = .range t m) (hm : ev s m = some (.map (some b))) (hi : L[i]? = some (b, .map es cl)) (he : MapI k es cl ps)
    (hK : ∀ r, IterI k es #[] ps → Kn ⟨(d, .pointer (some ⟨r, 0, none⟩)) :: s, D, (r, .mapIter (some b) cl #[] cl) :: L⟩) (hdst : o.dst = some d := by exact rfl) (hd : Nat.blt d c.N = true := by exact rfl) : OW c o Kn K ⟨s, D, L⟩ := fun a w ha => by
  refine ⟨fun _ _ => trivial, ?_⟩
  have hr : (execOp a.eval o).run c.P w = .ok (.value (.pointer (some ⟨w.heap.size, 0, none⟩))) (w.alloc (.mapIter (some b) cl #[] cl)) := by
    have := run_range_map (P := c.P) w t kt vt b es cl hu.h (ha.mem.at_ hi)
    simp [execOp, ho, ha.ev hm, this]
  rw [Oper.semAt_eq _ _ _ (by rw [ho]; intro cc h; cases h), hr]
  refine ⟨_, ?_, hK w.heap.size ?_⟩
  · rw [hdst]
    exact (ha.mem' (ha.mem.alloc _)).put (d := some d) hd _
  · have : leftOf es #[] = es := Array.filter_eq_self.2 fun x _ => by simp
    unfold IterI
    rw [this]
    exact he.ents
theorem leftOf_push {es : Array MapEntry} {seen : Array Nat} {x : Nat} : (leftOf es (seen.push x)).toList = (leftOf es seen).toList.filter fun e => decide (e.born ≠ x) := by
  unfold leftOf
  rw [Array.toList_filter, Array.toList_filter, List.filter_filter]
  congr 1
  funext e
  simp [Bool.and_comm]
theorem Ents_split {k : IntKind} : ∀ {l : List MapEntry} {m : List (Int × Value)} {e : MapEntry}, Ents k l m → (l.map (·.born)).Nodup → e ∈ l → ∃ A x v B, m = A ++ (x, v) :: B ∧ e.key = .int k x ∧ e.val = v ∧ Ents k (l.filter fun e' => decide (e'.born ≠ e.born)) (A ++ B)
  | [], _, _, _, _, h => by simp at h
  | e :: l, [], _, h, _, _ => by simp [Ents] at h
  | e :: l, p :: r, e', h, hn, hm => by
    obtain ⟨h1, h2⟩ := List.nodup_cons.1 hn
    simp only [Ents, List.map_cons, List.cons.injEq, Prod.mk.injEq] at h
    obtain ⟨⟨hk, hv⟩, hr⟩ := h
    rcases List.mem_cons.1 hm with rfl | hm'
    · refine ⟨[], p.1, p.2, r, rfl, hk, hv, ?_⟩
      rw [List.filter_cons_of_neg (by simp)]
      have : l.filter (fun e => decide (e.born ≠ e'.born)) = l := List.filter_eq_self.2 fun q hq => by
        have : q.born ≠ e'.born := fun ex => h1 (List.mem_map.2 ⟨q, hq, ex⟩)
        simpa using this
      rw [this]
      exact hr
    · obtain ⟨A, x, v, B, hAB, h3, h4, h5⟩ := Ents_split (k := k) (show Ents k l r from hr) h2 hm'
      have hne : e.born ≠ e'.born := fun ex => h1 (List.mem_map.2 ⟨e', hm', ex.symm⟩)
      refine ⟨p :: A, x, v, B, by rw [hAB]; rfl, h3, h4, ?_⟩
      rw [List.filter_cons_of_pos (by simpa using hne)]
      simp only [Ents, List.cons_append, List.map_cons, hk, hv]
      rw [show _ = _ from h5]
def LastI (k : IntKind) (es : Array MapEntry) (seen : Array Nat) (n : Int) (v : Value) : Prop := ∃ e ∈ es.toList, ∃ s0 : Array Nat, seen = s0.push e.born ∧ e.key = .int k n ∧ e.val = v
theorem OW_nextMap {d : Nat} {k : IntKind} {x : Operand} {b r cl i j : Nat} {es : Array MapEntry} {seen : Array Nat} {ps todo : List (Int × Value)} (ho : o.op = .next x false) (hx : ev s x = some (.pointer (some ⟨r, 0, none⟩))) (hi : L[i]? = some (r, .mapIter (some b) cl seen cl)) (hj : L[j]? = some (b, .map es cl)) (he : MapI k es cl ps) (ht : IterI k es seen todo)
    (hEnd : todo = [] → Kn ⟨(d, .tuple #[.bool false]) :: s, D, L⟩)
    (hOne : ∀ A n v B seen', todo = A ++ (n, v) :: B → IterI k es seen' (A ++ B) → LastI k es seen' n v → Kn ⟨(d, .tuple #[.bool true, .int k n, v]) :: s, D, L.set i (r, .mapIter (some b) cl seen' cl)⟩) (hdst : o.dst = some d := by exact rfl) (hd : Nat.blt d c.N = true := by exact rfl) : OW c o Kn K ⟨s, D, L⟩ := fun a w ha => by
  refine ⟨fun _ _ => trivial, ?_⟩
  have hr := run_next_at (P := c.P) w o.type r b cl cl seen es cl (ha.mem.at_ hi) (ha.mem.at_ hj) he.below (Nat.le_refl _)
  rcases hr with ⟨h0, hr⟩ | ⟨e, hem, w1, hw1, hr⟩
  · have hr' : (execOp a.eval o).run c.P w = .ok (.value (.tuple #[.bool false])) w := by simp [execOp, ho, ha.ev hx, hr]
    rw [Oper.semAt_eq _ _ _ (by rw [ho]; intro cc h; cases h), hr']
    refine ⟨_, ?_, hEnd ?_⟩
    · rw [hdst]
      exact ha.put (d := some d) hd _
    · have hl : (leftOf es seen).toList = [] := by
        apply List.eq_nil_of_length_eq_zero
        simpa using h0
      have : Ents k [] todo := by have := ht; unfold IterI at this; rwa [hl] at this
      cases todo with
      | nil => rfl
      | cons p q => simp [Ents] at this
  · have hr' : (execOp a.eval o).run c.P w = .ok (.value (.tuple #[.bool true, e.key, e.val])) (Go.ChangeMaps.setBlock w1 r (.mapIter (some b) cl (seen.push e.born) cl)) := by simp [execOp, ho, ha.ev hx, hr]
    rw [Oper.semAt_eq _ _ _ (by rw [ho]; intro cc h; cases h), hr']
    have hnd : ((leftOf es seen).toList.map (·.born)).Nodup := by
      unfold leftOf
      rw [Array.toList_filter]
      exact he.born.sublist ((List.filter_sublist).map _)
    obtain ⟨A, n, v, B, hAB, h3, h4, h5⟩ := Ents_split ht hnd hem
    rw [← leftOf_push] at h5
    have hes : e ∈ es.toList := by
      unfold leftOf at hem
      rw [Array.toList_filter] at hem
      exact (List.mem_filter.1 hem).1
    refine ⟨_, ?_, hOne A n v B _ hAB h5 ⟨e, hes, seen, rfl, h3, h4⟩⟩
    rw [hdst, h3, h4]
    have hm1 : Mem c.g L w1 := by
      rcases hw1 with rfl | rfl
      · exact ha.mem
      · exact ha.mem.drew
    have hm2 : Mem c.g (L.set i (r, .mapIter (some b) cl (seen.push e.born) cl)) (Go.ChangeMaps.setBlock w1 r (.mapIter (some b) cl (seen.push e.born) cl)) := hm1.putObj hi _
    exact (ha.mem' hm2).put (d := some d) hd _
theorem Qt_entry {k : IntKind} {x : Operand} {b r cl i j : Nat} {es : Array MapEntry} {seen : Array Nat} {ps : List (Int × Value)} {n : Int} {v : Value} (ho : o.op = .entry x) (hi : L[i]? = some (r, .mapIter (some b) cl seen cl)) (hj : L[j]? = some (b, .map es cl)) (he : MapI k es cl ps) (hl : LastI k es seen n v) (hx : ev s x = some (.pointer (some ⟨r, 0, none⟩)) := by exact rfl) : Qt c s L o (.tuple #[.int k n, v]) :=
  Qt_of_run (by simp [ho]) (fun ρ hρ w hmem => by
    obtain ⟨e, he1, s0, rfl, h3, h4⟩ := hl
    have hr := run_entry_at (P := c.P) w r b cl s0 es cl e (hmem.at_ hi) (hmem.at_ hj) he1 he.born
    rw [h3, h4] at hr
    simp [execOp, ho, hρ x _ hx, hr])
end
end Go.Proofs.Ytmdiabglbmgkkaa
namespace Go.Proofs.Ytmdiabglbmgkkaa
open Go.RowKit
theorem WC_rangeX {α : Type} {P : Program} {g : World} {N n : Nat} {x : Operand} {ps : Array Nat} {assign body : Code} {K : Exit → St → Prop} {s : List (Nat × Value)} {D : List Deferred} {L : List (Nat × Obj)} {gf : Nat} {fs lb : Array Value} [hf : FCall P gf]
    (hx : ev s x = some (.func (.func gf) fs lb)) (enc : α → List Value) (hps : ∀ y, (enc y).length = ps.size) (hpn : (ps.toList.all fun p => Nat.blt p N) = true)
    (Dom : List α → α → Prop) (Fin : List α → Prop) (I : List α → List (Nat × Obj) → Prop) (Ix : Code → List (Nat × Obj) → Prop)
    (hit : ∀ (l d : Nat) (o1 o2 : Obj) (Jx : List (Nat × Obj) → Prop),
      (∀ X pre y L', Dom pre y → I pre L' → YieldFn P l (enc y) ((l, o1) :: (d, o2) :: (L' ++ X)) (fun v L2 => (v = .bool true ∧ ∃ L'', L2 = (l, o1) :: (d, o2) :: (L'' ++ X) ∧ I (pre ++ [y]) L'') ∨ (v = .bool false ∧ Jx L2))) →
      Fn P gf (fs.toList ++ [.func (.yield l) #[] #[]] ++ lb.toList) ((l, o1) :: (d, o2) :: L) (fun _ L2 => (∃ xs L', Fin xs ∧ L2 = (l, o1) :: (d, o2) :: L' ∧ I xs L') ∨ Jx L2))
    (hbody : ∀ X g' n' l d pre y L', Dom pre y → I pre L' → RoundOk ⟨P, g', N, n', none⟩ l d assign body ⟨zipS ps.toList (enc y) s, [], L' ++ X⟩ (L' ++ X) (fun L3 => ∃ L'', L3 = L'' ++ X ∧ I (pre ++ [y]) L'') Ix)
    (hdone : ∀ d xs L', Fin xs → I xs L' → K .normal ⟨s, markD d :: D, (d, .deferred (some [])) :: L'⟩)
    (hstop : ∀ d cj L', Ix cj L' → WC ⟨P, g, N, n, none⟩ cj K ⟨s, markD d :: D, (d, .deferred (some [])) :: L'⟩) :
    WC ⟨P, g, N, n, none⟩ (.rangeFunc x ps assign body) K ⟨s, D, L⟩ := fun a w ha => by
  refine wpIn_rangeFunc ?_
  intro fn _
  obtain ⟨rec, hrec⟩ : ∃ rec : LoopState → Option Code → Loop, rec = fun st pe => { state := st, pending := pe, fn, tmps := a.tmps, params := ps, assign, body, defers := w.heap.size } := ⟨_, rfl⟩
  obtain ⟨W1, hW1⟩ : ∃ W1, (w.alloc (.deferred (some []))).alloc (.loop (rec .ready none)) = W1 := ⟨_, rfl⟩
  have hm1 : Mem g ((w.heap.size + 1, .loop (rec .ready none)) :: (w.heap.size, .deferred (some [])) :: L) W1 := by
    have := (ha.mem.alloc (.deferred (some []))).alloc (.loop (rec .ready none))
    rw [World.size_alloc] at this
    rw [← hW1]; exact this
  refine ⟨w.heap.size + 1, [markD w.heap.size], W1, { target := .fn (.func gf) lb, args := fs ++ #[.func (.yield (w.heap.size + 1)) #[] #[]] }, W1, gf, fs ++ #[.func (.yield (w.heap.size + 1)) #[] #[]] ++ lb, W1, ?_, ?_, fun _ _ => trivial, ?_, fun h => by simp at h, ?_⟩
  · rw [← hW1, hrec]; exact run_enterLoop_outer _ _ _ _ _
  · have := ha.ev hx
    simp [resolve, this, Deferred.ofValue, show ∀ v, a.eval (.const v) = v from fun _ => rfl]
  · simp [invoke, hf.h]
  · generalize hl : w.heap.size + 1 = l at hm1 ⊢
    generalize hd : w.heap.size = d at hm1 ⊢
    let Jx : List (Nat × Obj) → Prop := fun L2 => ∃ cj L', L2 = (l, .loop (rec .done (some cj))) :: (d, .deferred (some [])) :: L' ∧ Ix cj L'
    have hcall := hit l d (.loop (rec .ready none)) (.deferred (some [])) Jx ?_
    · have e : (fs.toList ++ [Value.func (.yield l) #[] #[]] ++ lb.toList).toArray = fs ++ #[.func (.yield l) #[] #[]] ++ lb := by apply Array.ext'; simp
      have hc := callsIn_fw none (n - 1) (hcall g W1 hm1)
      rw [e] at hc
      refine hc.mono fun e w' ⟨v, L2, h1, h2, h3⟩ => ?_
      subst h1
      rcases h3 with ⟨xs, L', hfin, rfl, hI⟩ | ⟨cj, L', rfl, hI⟩
      · have hlp := h2.at_ (i := 0) rfl
        have hpd : (rec .ready none).pending = none := by rw [hrec]
        obtain ⟨w4, hen, hm4⟩ : ∃ w4, (Instr.endLoop l).run P w' = .ok (rec .ready none).pending w4 ∧ Mem g ((d, .deferred (some [])) :: L') w4 :=
          ⟨_, run_endLoop (P := P) hlp (by rw [hrec]; simp), (h2.putObj (i := 0) rfl (.loop { rec .ready none with state := .exhausted })).sublist (.cons _ (.refl _))⟩
        rw [hpd] at hen
        exact ⟨none, w4, hen, ⟨s, markD d :: D, (d, .deferred (some [])) :: L'⟩, ⟨ha.size, ha.slots, by show markD d :: a.defers = _; rw [ha.defers], hm4⟩, hdone d xs L' hfin hI⟩
      · have hlp := h2.at_ (i := 0) rfl
        have hpd : (rec .done (some cj)).pending = some cj := by rw [hrec]
        obtain ⟨w4, hen, hm4⟩ : ∃ w4, (Instr.endLoop l).run P w' = .ok (rec .done (some cj)).pending w4 ∧ Mem g ((d, .deferred (some [])) :: L') w4 :=
          ⟨_, run_endLoop (P := P) hlp (by rw [hrec]; simp), (h2.putObj (i := 0) rfl (.loop { rec .done (some cj) with state := .exhausted })).sublist (.cons _ (.refl _))⟩
        rw [hpd] at hen
        exact ⟨some cj, w4, hen, hstop d cj L' hI _ _ ⟨ha.size, ha.slots, by show markD d :: a.defers = _; rw [ha.defers], hm4⟩⟩
    · -- one round
      rintro X pre y L' hdom hI g2 w2 m hm
      have hy := run_yield (P := P) (w := w2) (args := (enc y).toArray) (hm.at_ (i := 0) rfl) (by rw [hrec]; simpa using hps y)
      have e1 : (rec .ready none).fn = fn ∧ (rec .ready none).assign = assign ∧ (rec .ready none).body = body ∧ (rec .ready none).params = ps ∧ (rec .ready none).tmps = a.tmps := by rw [hrec]; exact ⟨rfl, rfl, rfl, rfl, rfl⟩
      rw [e1.1, e1.2.1, e1.2.2.1, e1.2.2.2.1, e1.2.2.2.2] at hy
      refine ⟨fn, _, assign, body, hy, roundIn_of_wpIn trivial ?_⟩
      have hz := holds_zip (g := g2) (w := w2) (N := N) (D := []) (L := (l, .loop (rec .ready none)) :: (d, .deferred (some [])) :: (L' ++ X)) ps.toList (enc y) s { tmps := a.tmps, defers := [] } hpn ⟨ha.size, ha.slots, rfl, hm⟩
      have e2 : (ps.toList.zip (enc y)).foldl (fun t (q : Nat × Value) => t.setIfInBounds q.1 q.2) a.tmps = (ps.zip (enc y).toArray).foldl (fun tmps (q : Nat × Value) => tmps.setIfInBounds q.1 q.2) a.tmps := by
        rw [← Array.foldl_toList, Array.toList_zip]
      simp only [e2] at hz
      refine Go.wpIn_mono (hbody X g2 m l d pre y L' hdom hI (.loop (rec .ready none)) (.deferred (some [])) ⟨_, rfl⟩ _ w2 hz) (fun e a3 w3 hl3 => ?_)
      cases e with
      | normal =>
        obtain ⟨σ', hH, _, s', A, B, rfl, hnext⟩ := hl3
        have hat : (A ++ (l, Obj.loop (rec .ready none)) :: B)[A.length]? = some (l, .loop (rec .ready none)) := by simp
        have hlp := hH.mem.at_ hat
        have hb := run_beginRound (P := P) hlp (by rw [hrec])
        refine ⟨_, hb, ?_⟩
        have hm4 := hH.mem.putObj hat (.loop { rec .ready none with state := .busy })
        have e3 : (A ++ (l, Obj.loop (rec .ready none)) :: B).set A.length (l, .loop { rec .ready none with state := .busy }) = A ++ (l, .loop { rec .ready none with state := .busy }) :: B := by simp
        simp only [e3] at hm4
        have hH4 : Holds g2 N ⟨s', [], A ++ (l, .loop { rec .ready none with state := .busy }) :: B⟩ a3 _ := ⟨hH.size, hH.slots, hH.defers, hm4⟩
        refine Go.wpIn_mono (hnext _ ⟨_, rfl⟩ _ _ hH4) (fun e a5 w5 hl5 => ?_)
        have fin : ∀ (jump : Option Code) (L'' : List (Nat × Obj)), Mem g2 ((l, .loop { rec .ready none with state := .busy }) :: (d, .deferred (some [])) :: L'') w5 →
            ∃ w6, (Instr.endRound l jump).run P w5 = .ok (.bool jump.isNone) w6 ∧ Mem g2 ((l, .loop (rec (if jump.isNone then .ready else .done) jump)) :: (d, .deferred (some [])) :: L'') w6 := fun jump L'' hm5 => by
          have h1 := run_endRound (P := P) jump (hm5.at_ (i := 0) rfl)
          have h2 := hm5.putObj (i := 0) rfl (.loop { ({ rec .ready none with state := .busy } : Loop) with state := if jump.isNone then .ready else .done, pending := jump })
          refine ⟨_, h1, ?_⟩
          have e4 : ({ ({ rec .ready none with state := .busy } : Loop) with state := if jump.isNone then .ready else .done, pending := jump } : Loop) = rec (if jump.isNone then .ready else .done) jump := by rw [hrec]
          rw [e4] at h2 ⊢
          exact h2
        cases e with
        | normal =>
          obtain ⟨σ'', h1, _, h2, L3, rfl, h3⟩ := hl5
          obtain ⟨w6, h4, h5⟩ := fin none (L3 ++ X) (h1.mem.sublist h2)
          exact ⟨_, w6, h4, _, _, rfl, h5, .inl ⟨rfl, L3, rfl, h3⟩⟩
        | ret =>
          obtain ⟨σ'', h1, L'', h2, h3⟩ := hl5
          obtain ⟨w6, h4, h5⟩ := fin (some .ret) L'' (h1.mem.sublist h2)
          exact ⟨_, w6, h4, _, _, rfl, h5, .inr ⟨rfl, .ret, L'', rfl, h3⟩⟩
        | exit id =>
          obtain ⟨σ'', h1, L'', h2, h3⟩ := hl5
          obtain ⟨w6, h4, h5⟩ := fin (some (.exit id)) L'' (h1.mem.sublist h2)
          exact ⟨_, w6, h4, _, _, rfl, h5, .inr ⟨rfl, .exit id, L'', rfl, h3⟩⟩
        | goto t =>
          obtain ⟨σ'', h1, L'', h2, h3⟩ := hl5
          obtain ⟨w6, h4, h5⟩ := fin (some (.goto t)) L'' (h1.mem.sublist h2)
          exact ⟨_, w6, h4, _, _, rfl, h5, .inr ⟨rfl, .goto t, L'', rfl, h3⟩⟩
        | panic ch => obtain ⟨_, _, h⟩ := hl5; exact h.elim
        | outgrown => obtain ⟨_, _, h⟩ := hl5; exact h.elim
      | panic ch => obtain ⟨_, _, h, _⟩ := hl3; cases h
      | ret => obtain ⟨_, _, h, _⟩ := hl3; cases h
      | exit id => obtain ⟨_, _, h, _⟩ := hl3; cases h
      | goto t => obtain ⟨_, _, h, _⟩ := hl3; cases h
      | outgrown => obtain ⟨_, _, h, _⟩ := hl3; cases h
end Go.Proofs.Ytmdiabglbmgkkaa
