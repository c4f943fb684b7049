/-
  A part of what the last of these texts needs; by itself it proves no statement.
-/
import Derived.RecoverIn
import Derived.WalkSpells
import Derived.MapKept
import Derived.Laws.StructEq
import Derived.Laws.IdiomStrings
import Derived.Great.BuildSlice
import Derived.Laws.MakeOwn
import Derived.Deep.Upon
import Derived.LoopNIn
import Derived.Test.YtncgndcepoicbaaGreatRows
import Derived.Test.YtncgndcepoicbaaGreatKT1
namespace Go.Proofs.YtncgndcepoicbaaGreat
open Go.RowKit
def lateT (ops : List Oper) (m : Nat) : Bool := lateL (maskL ops 0 .e) (Nat.pow 2 m) m (Nat.sub ops.length m)
where lateL (M : T Nat) (p : Nat) : Nat → Nat → Bool
  | _, 0 => true
  | j, n + 1 => match M.get j with
    | some q => match Nat.beq (Nat.mod q p) (Nat.sub p 1) with
      | true => lateL M p (Nat.succ j) n
      | false => false
    | none => false
theorem lateT_ok {ops : List Oper} {m : Nat} (h : lateT ops m = true) {j k : Nat} (hj : j < ops.length) (hm : m ≤ j) (hk : k < m) : WaitsOn ops j k := by
  have hM := maskL_ok (ops := ops) ops 0 .e (fun i o h => by simpa using h) (fun j n h => by cases h)
  have gen : ∀ (n i : Nat), lateT.lateL (maskL ops 0 .e) (Nat.pow 2 m) i n = true → i ≤ j → j < i + n → WaitsOn ops j k := by
    intro n
    induction n with
    | zero => intro i _ h1 h2; omega
    | succ n ih =>
      intro i h h1 h2
      simp only [lateT.lateL] at h
      split at h
      · rename_i q hq
        split at h
        · rename_i hb
          by_cases e : i = j
          · subst e
            refine hM i q hq k ?_
            have hb := Nat.eq_of_beq_eq_true hb
            have hb : q % 2 ^ m = 2 ^ m - 1 := hb
            have h3 : (q % 2 ^ m).testBit k = true := by rw [hb, Nat.testBit_two_pow_sub_one]; simpa using hk
            rw [Nat.testBit_mod_two_pow] at h3
            simp only [Bool.and_eq_true] at h3
            exact h3.2
          · exact ih (i + 1) h (by omega) (by omega)
        · cases h
      · cases h
  exact gen _ m h hm (by have : Nat.sub ops.length m = ops.length - m := rfl; omega)
section
variable {c : Cx} {ops : Array Oper}
def Closed (ops : Array Oper) (listed : Array Bool) : Prop := ∀ j o, ops[j]? = some o → listed.getD j false = true → ∀ e ∈ o.after, Region.binds .any e = true → listed.getD e.on false = true
theorem Closed.reach {listed : Array Bool} (hc : Closed ops listed) {j k : Nat} (h : WaitsOn ops.toList j k) : (∀ o, ops[j]? = some o → ∀ e ∈ o.after, Region.binds .any e = true → listed.getD e.on false = true) → listed.getD k false = true := by
  induction h with
  | one hj he hb => intro hall; exact hall _ (by simpa using hj) _ he hb
  | more hj he hb h ih =>
    intro hall
    have h1 := hall _ (by simpa using hj) _ he hb
    exact ih fun o ho => hc _ o ho h1
theorem Closed.set {listed : Array Bool} (hc : Closed ops listed) {j : Nat} (hj : j ∈ Region.ready .any ops listed) : Closed ops (listed.setIfInBounds j true) := by
  obtain ⟨hun, oj, hoj, hall⟩ := mem_ready.1 hj
  have mono : ∀ k, listed.getD k false = true → (listed.setIfInBounds j true).getD k false = true := fun k hk => by
    by_cases e : j = k
    · subst e
      rcases Nat.lt_or_ge j listed.size with h' | h'
      · simp [h']
      · simp [Array.getElem?_eq_none h'] at hk
    · simpa [Array.getElem?_setIfInBounds_ne e] using hk
  intro k o ho hk e he hb
  by_cases hjk : j = k
  · subst hjk
    rw [hoj] at ho; cases ho
    exact mono _ (hall e he hb)
  · refine mono _ (hc k o ho ?_ e he hb)
    simpa [Array.getElem?_setIfInBounds_ne hjk] using hk
theorem ready_reach {listed : Array Bool} (hc : Closed ops listed) {i j : Nat} (hi : i ∈ Region.ready .any ops listed) (hj : j ∈ Region.ready .any ops listed) (h : WaitsOn ops.toList j i) : False := by
  obtain ⟨_, oj, hoj, hall⟩ := mem_ready.1 hj
  have h1 := hc.reach h fun o ho e he hb => by rw [hoj] at ho; cases ho; exact hall e he hb
  have h0 := (mem_ready.1 hi).1
  rcases Nat.lt_or_ge i listed.size with h' | h'
  · simp [h'] at h0 h1; rw [h0] at h1; cases h1
  · simp [Array.getElem?_eq_none h'] at h1
def Clean (ms : List Nat) (listed : Array Bool) : Prop := ∀ j ∈ ms, listed.getD j false = false
theorem Clean.back {ms : List Nat} {listed : Array Bool} {i : Nat} (h : Clean ms (listed.setIfInBounds i true)) : Clean ms listed := fun j hj => by
  have := h j hj
  by_cases e : i = j
  · subst e
    rcases Nat.lt_or_ge i listed.size with h' | h'
    · simp [h'] at this
    · simp [Array.getElem?_eq_none h']
  · simpa [Array.getElem?_setIfInBounds_ne e] using this
theorem Clean.set {ms : List Nat} {listed : Array Bool} {i : Nat} (h : Clean ms listed) (hi : i ∉ ms) : Clean ms (listed.setIfInBounds i true) := fun j hj => by
  have hne : i ≠ j := fun e => hi (e ▸ hj)
  have := h j hj
  simpa [Array.getElem?_setIfInBounds_ne hne] using this
def AnyK (c : Cx) (ops : Array Oper) (K : Exit → St → Prop) (Ls L0 : List (Nat × Obj)) (m : Nat) (ms : List Nat) : Nat → Array Bool → Act → World → Prop
  | 0, listed, a, w => Region.ready .any ops listed = [] ∧ liftO c K .normal a w
  | fuel + 1, listed, a, w =>
    (Region.ready .any ops listed = [] → liftO c K .normal a w) ∧
    ∀ i ∈ Region.ready .any ops listed, wpOpIn (Fw c.r) c.n c.P ops (liftO c K) i (fun a' w' => ((i < m → Mem c.g Ls w') ∧ (Clean ms (listed.setIfInBounds i true) → Mem c.g L0 w')) ∧ AnyK c ops K Ls L0 m ms fuel (listed.setIfInBounds i true) a' w') a w
theorem AnyK.any {K : Exit → St → Prop} {Ls L0 : List (Nat × Obj)} {m : Nat} {ms : List Nat} : ∀ (fuel : Nat) (listed : Array Bool) (a : Act) (w : World), AnyK c ops K Ls L0 m ms fuel listed a w → wpAnyIn (Fw c.r) c.n c.P .any ops (liftO c K) fuel listed a w
  | 0, _, _, _, h => h
  | fuel + 1, _, _, _, h => ⟨h.1, fun i hi => wpOpIn_mono (fun a' w' h' => AnyK.any fuel _ a' w' h'.2) (h.2 i hi)⟩
def aheadOk (ops : Array Oper) (ms : List Nat) (m i : Nat) : Bool := ms.all fun j => match Nat.ble m j with
  | true => true
  | false => match ops[j]? with
    | some o => o.after.any fun e => Region.binds .any e && e.on == i
    | none => true
theorem aheadOk_spec {ms : List Nat} {m i : Nat} (h : aheadOk ops ms m i = true) {j : Nat} {o : Oper} (hj : ops[j]? = some o) (hm : j ∈ ms) (hjm : j < m) : ∃ e ∈ o.after, Region.binds .any e = true ∧ e.on = i := by
  have h1 := List.all_eq_true.1 h j hm
  have hb : Nat.ble m j = false := Bool.eq_false_iff.2 fun h => by have := Nat.le_of_ble_eq_true h; omega
  simp only [hb, hj] at h1
  rw [← Array.any_toList, List.any_eq_true] at h1
  obtain ⟨e, he, h2⟩ := h1
  simp only [Bool.and_eq_true, beq_iff_eq] at h2
  exact ⟨e, by simpa using he, h2.1, h2.2⟩
theorem ready_un {listed : Array Bool} {i : Nat} (hr : i ∈ Region.ready .any ops listed) {o : Oper} {e : Edge} (he : e ∈ o.after) (hb : Region.binds .any e = true) (heq : e.on = i) (hall : ∀ e ∈ o.after, Region.binds .any e = true → listed.getD e.on false = true) : False := by
  have h1 := hall e he hb
  have h0 := (mem_ready.1 hr).1
  rw [heq] at h1
  rcases Nat.lt_or_ge i listed.size with h' | h'
  · simp [h'] at h0 h1; rw [h0] at h1; cases h1
  · simp [Array.getElem?_eq_none h'] at h1
set_option maxHeartbeats 4000000 in
theorem AnyK.first {K : Exit → St → Prop} {Ls L0 X : List (Nat × Obj)} {m : Nat} {ms : List Nat} {i : Nat} {oi : Oper} {v : Value} (hi : ops[i]? = some oi) (hsel : ∀ (j : Nat) (o : Oper) cs b, ops[j]? = some o → o.op ≠ .select cs b) (him : i < m) (hlate : lateT ops.toList m = true) (hims : i ∉ ms)
    (hX : X = Ls ∨ X = L0 ∧ aheadOk ops ms m i = true) (hsub : ∀ w, Mem c.g L0 w → Mem c.g Ls w) :
    ∀ (fuel : Nat) (listed : Array Bool) (a : Act) (w : World),
      (∀ j oj, ops[j]? = some oj → j ≠ i → listed.getD j true = false → (∀ e ∈ oj.after, Region.binds .any e = true → e.on ≠ i) → oi.apart ops oj = true) →
      Closed ops listed → i ∈ Region.ready .any ops listed → Calm c ops X oi v a → Mem c.g Ls w → (X = Ls ∨ Clean ms listed) → (Clean ms listed → Mem c.g L0 w) →
      AnyK c ops K Ls L0 m ms fuel (listed.setIfInBounds i true) (a.put oi.dst v) w → AnyK c ops K Ls L0 m ms (fuel + 1) listed a w := by
  intro fuel
  have memX : ∀ {listed : Array Bool} {w : World}, Mem c.g Ls w → (X = Ls ∨ Clean ms listed) → (Clean ms listed → Mem c.g L0 w) → Mem c.g X w := fun {listed w} hS hcl hC => by
    rcases hX with rfl | ⟨rfl, _⟩
    · exact hS
    · rcases hcl with rfl | hcl
      · exact hS
      · exact hC hcl
  induction fuel with
  | zero =>
    intro listed a w _ hclo hr hy hS hcl hC H
    refine ⟨fun h => (by rw [h] at hr; cases hr), fun j hj => ?_⟩
    by_cases hji : j = i
    · subst hji; exact hy.op hi (memX hS hcl hC) ⟨⟨fun _ => hS, fun h => hC h.back⟩, H⟩
    · have := ready_mono hj hji
      rw [H.1] at this
      cases this
  | succ fuel ih =>
    intro listed a w hfree hclo hr hy hS hcl hC H
    refine ⟨fun h => (by rw [h] at hr; cases hr), fun j hj => ?_⟩
    by_cases hji : j = i
    · subst hji; exact hy.op hi (memX hS hcl hC) ⟨⟨fun _ => hS, fun h => hC h.back⟩, H⟩
    · have h1 := H.2 j (ready_mono hj hji)
      obtain ⟨hjun, oj, hoj, hall⟩ := mem_ready.1 hj
      have hnot : ∀ e ∈ oj.after, Region.binds .any e = true → e.on ≠ i := fun e he hb heq => ready_un hr he hb heq hall
      have hjm : j < m := by
        rcases Nat.lt_or_ge j m with h' | h'
        · exact h'
        · exact (ready_reach hclo hr hj (lateT_ok hlate (by simpa using (Array.getElem?_eq_some_iff.1 hoj).1) h' him)).elim
      have hcl' : X = Ls ∨ Clean ms (listed.setIfInBounds j true) := by
        rcases hX with h | ⟨_, hah⟩
        · exact .inl h
        · rcases hcl with h | hcl
          · exact .inl h
          · refine .inr (hcl.set fun hjms => ?_)
            obtain ⟨e, he, hb, heq⟩ := aheadOk_spec hah hoj hjms hjm
            exact hnot e he hb heq
      have h2 := wpOpIn_calm hoj (hfree j oj hoj hji hjun hnot) (fun cs b => hsel i oi cs b hi) (fun cs b => hsel j oj cs b hoj) hy h1
      have hfree' : ∀ k ok, ops[k]? = some ok → k ≠ i → (listed.setIfInBounds j true).getD k true = false →
          (∀ e ∈ ok.after, Region.binds .any e = true → e.on ≠ i) → oi.apart ops ok = true := fun k ok hk hki hun hno => by
        refine hfree k ok hk hki ?_ hno
        by_cases hjk : j = k
        · subst hjk; exact hjun
        · rw [getD_set_ne true hjk] at hun; exact hun
      refine wpOpIn_mono (fun a' w' h3 => ?_) h2
      have hC' : Clean ms (listed.setIfInBounds j true) → Mem c.g L0 w' := fun h => h3.2.1.2 (by
        rw [Array.setIfInBounds_comm _ _ (Ne.symm hji)]; exact h.set hims)
      refine ⟨⟨h3.2.1.1, hC'⟩, ih (listed.setIfInBounds j true) a' w' hfree' (hclo.set hj) (ready_mono hr (Ne.symm hji)) h3.1 (h3.2.1.1 hjm) hcl' hC' ?_⟩
      rw [Array.setIfInBounds_comm _ _ hji]
      exact h3.2.2
def Plan.musts : Plan → List Nat
  | .done => []
  | .calm _ p => p.musts
  | .must i p => i :: p.musts
  | .either i p j q => i :: j :: (p.musts ++ q.musts)
  | .par l p => l.map Prod.fst ++ p.musts
def calmsOk (ms : List Nat) : Plan → Bool
  | .done => true
  | .calm i p => !ms.contains i && calmsOk ms p
  | .must _ p => calmsOk ms p
  | .either _ p _ q => calmsOk ms p && calmsOk ms q
  | .par _ p => calmsOk ms p
def WS (c : Cx) (ops : Array Oper) (K : Exit → St → Prop) (Ls L0 : List (Nat × Obj)) (m : Nat) (ms : List Nat) : Bool → Plan → St → Prop
  | _, .done, σ => K .normal σ
  | fresh, .calm i p, σ => ∃ o v X, ops[i]? = some o ∧ dok c.N o.dst = true ∧ (X = Ls ∨ X = L0 ∧ aheadOk ops ms m i = true ∧ fresh = true) ∧ (Qt c σ.s X o v ∧ o.guard = none ∨ ∃ j want og dg b, o.guard = some (j, want) ∧ ops[j]? = some og ∧ og.dst = some dg ∧ look σ.s dg = some b ∧
      ((b = .bool want ∧ Qt c σ.s X o v) ∨ ((b = .bool (!want) ∨ b = undef) ∧ v = undef ∧ ∀ cc, o.op ≠ .defer cc))) ∧ WS c ops K Ls L0 m ms fresh p (σ.put o.dst v)
  | _, .must i p, σ => Must c ops K Ls m i (fun σ' => WS c ops K Ls L0 m ms false p σ') σ
  | _, .par l p, σ => ∃ I : (Nat → Bool) → St → Prop, I (fun _ => false) σ ∧
      (∀ A σ', I A σ' → ∀ x ds, (x, ds) ∈ l → A x = false → (∀ y ∈ ds, A y = true) → Must c ops K Ls m x (fun σ'' => I (fun z => z == x || A z) σ'') σ') ∧
      ∀ A σ', I A σ' → (∀ x ∈ l.map Prod.fst, A x = true) → WS c ops K Ls L0 m ms false p σ'
  | _, .either i p j q, σ => Must c ops K Ls m i (fun σ' => WS c ops K Ls L0 m ms false p σ') σ ∧ Must c ops K Ls m j (fun σ' => WS c ops K Ls L0 m ms false q σ') σ
set_option maxHeartbeats 4000000 in
theorem Must.stepK {K : Exit → St → Prop} {Ls L0 : List (Nat × Obj)} {m : Nat} {ms : List Nat} (hlate : lateT ops.toList m = true) (hn : (Ls.map Prod.fst).Nodup) {p : Plan} {fuel : Nat} {listed : Array Bool} {σ : St} {j : Nat} (hclo : Closed ops listed) (hj : j ∈ Region.ready .any ops listed) (hjms : j ∈ ms)
    (ih : ∀ (σ : St), WS c ops K Ls L0 m ms false p σ → ∀ a w, Holds c.g c.N σ a w → (p.calms = true → Mem c.g Ls w) → (Clean ms (listed.setIfInBounds j true) → Mem c.g L0 w) → AnyK c ops K Ls L0 m ms fuel (listed.setIfInBounds j true) a w)
    (hp : planOk ops m p fuel (listed.setIfInBounds j true) = true) (h : Must c ops K Ls m j (fun σ' => WS c ops K Ls L0 m ms false p σ') σ) (a : Act) (w : World) (ha : Holds c.g c.N σ a w) :
    wpOpIn (Fw c.r) c.n c.P ops (liftO c K) j (fun a' w' => ((j < m → Mem c.g Ls w') ∧ (Clean ms (listed.setIfInBounds j true) → Mem c.g L0 w')) ∧ AnyK c ops K Ls L0 m ms fuel (listed.setIfInBounds j true) a' w') a w := by
  have hnc : ¬ Clean ms (listed.setIfInBounds j true) := fun h => by
    have h1 := h j hjms
    obtain ⟨hun, o, ho, _⟩ := mem_ready.1 hj
    rcases Nat.lt_or_ge j listed.size with h' | h'
    · simp [h'] at h1
    · simp [Array.getElem?_eq_none h'] at hun
  obtain ⟨o, ho, hW⟩ := h
  have hgo : ∀ a' w' σ', Holds c.g c.N σ' a' w' → (j < m → ∀ q ∈ Ls, q ∈ σ'.L) → WS c ops K Ls L0 m ms false p σ' → ((j < m → Mem c.g Ls w') ∧ (Clean ms (listed.setIfInBounds j true) → Mem c.g L0 w')) ∧ AnyK c ops K Ls L0 m ms fuel (listed.setIfInBounds j true) a' w' := by
    intro a' w' σ' h1 h2 h3
    have hmem : j < m → Mem c.g Ls w' := fun hjm => h1.mem.sub hn (h2 hjm)
    refine ⟨⟨hmem, fun h => absurd h hnc⟩, ih σ' h3 a' w' h1 (fun hx => ?_) (fun h => absurd h hnc)⟩
    rcases Nat.lt_or_ge j m with hjm | hjm
    · exact hmem hjm
    · exfalso
      have hall : ∀ k, k < m → (listed.setIfInBounds j true).getD k false = true := fun k hk => by
        obtain ⟨_, oj, hoj, hall⟩ := mem_ready.1 hj
        exact getD_set_true (hclo.reach (lateT_ok hlate (by simpa using (Array.getElem?_eq_some_iff.1 hoj).1) hjm hk) fun o ho e he hb => by rw [hoj] at ho; cases ho; exact hall e he hb)
      exact planOk_late p fuel _ hp hall hx
  unfold wpOpIn
  simp only [ho]
  rcases hW with ⟨hg, hW⟩ | ⟨⟨jj, want, og, dg, b, hg, hj, hdg, hb, hcase⟩, hd, h2, h3⟩
  · have hw : Region.wanted o (yielded ops a.tmps) = true := by
      rcases hg with hg | ⟨jj, want, og, dg, hg, hj, hdg, hb⟩
      · simp [Region.wanted, hg]
      · rw [wanted_yes ha hg hj hdg hb]; simp
    simp only [hw, if_true]
    exact Oper.wpIn_mono (fun a' w' ⟨σ', h1, h2, h3⟩ => hgo a' w' σ' h1 h2 h3) (hW a w ha)
  · have hw : Region.wanted o (yielded ops a.tmps) = false := by
      rcases hcase with rfl | rfl
      · rw [wanted_yes ha hg hj hdg hb]; cases want <;> rfl
      · exact wanted_undef ha hg hj hdg hb
    simp only [hw, Bool.false_eq_true, if_false]
    exact ⟨fun _ _ => trivial, hgo _ _ _ (ha.put hd undef) (by cases o.dst <;> exact h2) h3⟩
theorem Must.stepG {K : Exit → St → Prop} {Ls : List (Nat × Obj)} {m : Nat} {σ : St} {j : Nat} {W : St → Prop} {Nx : Act → World → Prop} (h : Must c ops K Ls m j W σ) (a : Act) (w : World) (ha : Holds c.g c.N σ a w)
    (hgo : ∀ a' w' σ', Holds c.g c.N σ' a' w' → (j < m → ∀ q ∈ Ls, q ∈ σ'.L) → W σ' → Nx a' w') : wpOpIn (Fw c.r) c.n c.P ops (liftO c K) j Nx a w := by
  obtain ⟨o, ho, hW⟩ := h
  unfold wpOpIn
  simp only [ho]
  rcases hW with ⟨hg, hW⟩ | ⟨⟨jj, want, og, dg, b, hg, hj, hdg, hb, hcase⟩, hd, h2, h3⟩
  · have hw : Region.wanted o (yielded ops a.tmps) = true := by
      rcases hg with hg | ⟨jj, want, og, dg, hg, hj, hdg, hb⟩
      · simp [Region.wanted, hg]
      · rw [wanted_yes ha hg hj hdg hb]; simp
    simp only [hw, if_true]
    exact Oper.wpIn_mono (fun a' w' ⟨σ', h1, h2, h3⟩ => hgo a' w' σ' h1 h2 h3) (hW a w ha)
  · have hw : Region.wanted o (yielded ops a.tmps) = false := by
      rcases hcase with rfl | rfl
      · rw [wanted_yes ha hg hj hdg hb]; cases want <;> rfl
      · exact wanted_undef ha hg hj hdg hb
    simp only [hw, Bool.false_eq_true, if_false]
    exact ⟨fun _ _ => trivial, hgo _ _ _ (ha.put hd undef) (by cases o.dst <;> exact h2) h3⟩
theorem parEach_spec {M : T Nat} {m : Nat} {listed : Array Bool} : ∀ {l : List (Nat × List Nat)} {E : List Nat}, parEach ops M m listed E l = true → ∀ {x : Nat} {ds : List Nat}, (x, ds) ∈ l → x < m ∧ listed.getD x true = false ∧ x ∉ E ∧ (∀ y ∈ ds, y ∈ E ∨ y ∈ l.map Prod.fst) ∧ (∀ y ∈ ds, bitOf M x y = true)
  | [], _, _, _, _, h => by cases h
  | (x0, d0) :: r, E, h, x, ds, hm => by
    simp only [parEach] at h
    split at h
    · rename_i o ho
      simp only [Bool.and_eq_true, Nat.blt_eq, Bool.not_eq_true', List.all_eq_true] at h
      obtain ⟨⟨⟨⟨⟨h1, h2⟩, h3⟩, h4⟩, h5⟩, h6⟩ := h
      rcases List.mem_cons.1 hm with e | hm
      · cases e
        exact ⟨h1, h2, memB_no h3, fun y hy => .inl (memB_ok (h4 y hy).1), fun y hy => (h4 y hy).2⟩
      · obtain ⟨g1, g2, g3, g4, g5⟩ := parEach_spec h6 hm
        simp only [List.mem_cons, not_or] at g3
        refine ⟨g1, g2, g3.2, fun y hy => ?_, g5⟩
        rcases g4 y hy with hy | hy
        · rcases List.mem_cons.1 hy with rfl | hy
          · exact .inr (by simp)
          · exact .inl hy
        · exact .inr (by simp only [List.map_cons, List.mem_cons]; exact .inr hy)
    · cases h
theorem parEach_next {M : T Nat} {m : Nat} {listed : Array Bool} {A : Nat → Bool} : ∀ {l : List (Nat × List Nat)} {E : List Nat}, parEach ops M m listed E l = true → (∀ x ∈ E, A x = true) → (∃ x ∈ l.map Prod.fst, A x = false) → ∃ x o, x ∈ l.map Prod.fst ∧ A x = false ∧ ops[x]? = some o ∧ ∀ e ∈ o.after, Region.binds .any e = true → listed.getD e.on false = true ∨ A e.on = true
  | [], _, _, _, ⟨x, h, _⟩ => by cases h
  | (x0, d0) :: r, E, h, hE, hx => by
    simp only [parEach] at h
    split at h
    · rename_i o ho
      simp only [Bool.and_eq_true, Nat.blt_eq, Bool.not_eq_true', List.all_eq_true] at h
      obtain ⟨⟨⟨⟨⟨h1, h2⟩, h3⟩, h4⟩, h5⟩, h6⟩ := h
      cases hA : A x0 with
      | false =>
        refine ⟨x0, o, by simp, hA, ho, fun e he hb => ?_⟩
        rw [← Array.all_toList, List.all_eq_true] at h5
        have := h5 e (by simpa using he)
        simp only [hb, Bool.not_true, Bool.false_or, Bool.or_eq_true] at this
        rcases this with h | h
        · exact .inl h
        · exact .inr (hE _ (memB_ok h))
      | true =>
        obtain ⟨x, o', g1, g2, g3, g4⟩ := parEach_next h6 (A := A) (fun x hx => by
          rcases List.mem_cons.1 hx with rfl | hx
          · exact hA
          · exact hE x hx) (by
          obtain ⟨x, hx, hAx⟩ := hx
          simp only [List.map_cons, List.mem_cons] at hx
          rcases hx with rfl | hx
          · rw [hA] at hAx; cases hAx
          · exact ⟨x, hx, hAx⟩)
        exact ⟨x, o', by simp only [List.map_cons, List.mem_cons]; exact .inr g1, g2, g3, g4⟩
    · cases h
theorem bitOf_reach {x y : Nat} (h : bitOf (maskL ops.toList 0 .e) x y = true) : WaitsOn ops.toList x y := by
  unfold bitOf at h
  split at h
  · rename_i n hn
    exact maskL_ok (ops := ops.toList) ops.toList 0 .e (fun i o h => by simpa using h) (fun j n h => by cases h) x n hn y h
  · cases h
theorem getD_of_size {listed : Array Bool} {z : Nat} (h : z < listed.size) (d : Bool) : listed.getD z d = listed[z]'h := by simp [h]
def ListedA (listed listed' : Array Bool) (A : Nat → Bool) : Prop := listed'.size = listed.size ∧ ∀ z, z < listed.size → listed'.getD z false = (listed.getD z false || A z)
theorem listAll_spec : ∀ (l : List (Nat × List Nat)) (listed : Array Bool), (listAll l listed).size = listed.size ∧ ∀ z, z < listed.size → (listAll l listed).getD z false = (listed.getD z false || memB z (l.map Prod.fst))
  | [], listed => ⟨rfl, fun z _ => by simp [listAll, memB]⟩
  | x :: r, listed => by
    obtain ⟨h1, h2⟩ := listAll_spec r (listed.setIfInBounds x.1 true)
    simp only [Array.size_setIfInBounds] at h1 h2
    refine ⟨h1, fun z hz => ?_⟩
    show (listAll r (listed.setIfInBounds x.1 true)).getD z false = _
    rw [h2 z hz]
    simp only [List.map_cons, memB]
    by_cases e : x.1 = z
    · subst e
      simp [hz]
    · have : Nat.beq x.1 z = false := Bool.eq_false_iff.2 fun h => e (Nat.eq_of_beq_eq_true h)
      simp [this, Array.getElem?_setIfInBounds_ne e]
theorem array_ext_getD {a b : Array Bool} (hs : a.size = b.size) (h : ∀ z, z < b.size → a.getD z false = b.getD z false) : a = b := by
  apply Array.ext hs
  intro i h1 h2
  have := h i h2
  rwa [getD_of_size h1, getD_of_size h2] at this
set_option maxHeartbeats 4000000 in
theorem par_any {K : Exit → St → Prop} {Ls L0 : List (Nat × Obj)} {m : Nat} {ms : List Nat} (hn : (Ls.map Prod.fst).Nodup) {l : List (Nat × List Nat)} {listed : Array Bool} (hl : parOk ops m listed l = true) (hsz : listed.size = ops.size) (hms : ∀ x ∈ l.map Prod.fst, x ∈ ms) {I : (Nat → Bool) → St → Prop}
    (hstep : ∀ A σ', I A σ' → ∀ x ds, (x, ds) ∈ l → A x = false → (∀ y ∈ ds, A y = true) → Must c ops K Ls m x (fun σ'' => I (fun z => z == x || A z) σ'') σ') {fuel : Nat}
    (hend : ∀ A σ', I A σ' → (∀ x ∈ l.map Prod.fst, A x = true) → ∀ a w, Holds c.g c.N σ' a w → Mem c.g Ls w → Closed ops (listAll l listed) → AnyK c ops K Ls L0 m ms fuel (listAll l listed) a w) :
    ∀ (k : Nat) (A : Nat → Bool) (listed' : Array Bool) (σ' : St), (∀ x, A x = true → x ∈ l.map Prod.fst) → ((l.map Prod.fst).filter fun x => !A x).length = k → ListedA listed listed' A → Closed ops listed' → I A σ' → ∀ a w, Holds c.g c.N σ' a w → Mem c.g Ls w → AnyK c ops K Ls L0 m ms (k + fuel) listed' a w := by
  simp only [parOk, Bool.and_eq_true, List.all_eq_true, List.mem_range] at hl
  obtain ⟨⟨_, hEach⟩, hRest⟩ := hl
  intro k
  induction k with
  | zero =>
    intro A listed' σ' hA hk hL hC hI a w ha hm
    have hall : ∀ x ∈ l.map Prod.fst, A x = true := fun x hx => by
      cases hAx : A x with
      | true => rfl
      | false =>
        have : x ∈ (l.map Prod.fst).filter fun x => !A x := List.mem_filter.2 ⟨hx, by simp [hAx]⟩
        rw [List.length_eq_zero_iff.1 hk] at this; cases this
    have e : listed' = listAll l listed := by
      obtain ⟨g1, g2⟩ := listAll_spec l listed
      apply array_ext_getD (hL.1.trans g1.symm)
      intro z hz
      rw [g1] at hz
      rw [hL.2 z hz, g2 z hz]
      congr 1
      cases hAz : A z with
      | true =>
        cases hb : memB z (l.map Prod.fst) with
        | true => rfl
        | false => exact absurd (hA z hAz) (memB_no hb)
      | false =>
        cases hb : memB z (l.map Prod.fst) with
        | false => rfl
        | true => rw [hall z (memB_ok hb)] at hAz; cases hAz
    subst e
    rw [Nat.zero_add]
    exact hend A σ' hI hall a w ha hm hC
  | succ k ih =>
    intro A listed' σ' hA hk hL hC hI a w ha hm
    have un : ∀ {z : Nat}, listed.getD z true = false → z < listed.size ∧ listed.getD z false = false := fun {z} h => by
      rcases Nat.lt_or_ge z listed.size with h' | h'
      · refine ⟨h', ?_⟩
        rw [getD_of_size h'] at h ⊢; exact h
      · simp [Array.getElem?_eq_none h'] at h
    rw [show k + 1 + fuel = (k + fuel) + 1 by omega]
    refine ⟨fun h0 => ?_, fun i hi => ?_⟩
    · exfalso
      have hex : ∃ x ∈ l.map Prod.fst, A x = false := by
        obtain ⟨x, hx⟩ := List.exists_mem_of_length_pos (l := (l.map Prod.fst).filter fun x => !A x) (by omega)
        obtain ⟨h1, h2⟩ := List.mem_filter.1 hx
        exact ⟨x, h1, by simpa using h2⟩
      obtain ⟨x, o, g1, g2, g3, g4⟩ := parEach_next (A := A) hEach (fun x hx => by cases hx) hex
      obtain ⟨⟨x', ds⟩, hq, rfl⟩ := List.mem_map.1 g1
      obtain ⟨q1, q2, _, _, _⟩ := parEach_spec hEach hq
      obtain ⟨u1, u2⟩ := un q2
      have : x' ∈ Region.ready .any ops listed' := mem_ready.2 ⟨by
        rw [getD_of_size (by rw [hL.1]; exact u1)]
        have := hL.2 x' u1
        rw [u2, g2] at this
        rw [getD_of_size (by rw [hL.1]; exact u1)] at this
        exact this, o, g3, fun e he hb => by
        rcases g4 e he hb with h | h
        · rcases Nat.lt_or_ge e.on listed.size with h' | h'
          · rw [hL.2 _ h', h]; rfl
          · simp [Array.getElem?_eq_none h'] at h
        · obtain ⟨⟨y, ds'⟩, hy, rfl⟩ := List.mem_map.1 (hA _ h)
          rename_i hye
          obtain ⟨_, w2, _, _, _⟩ := parEach_spec hEach hy
          rw [hL.2 _ (un w2).1, h]; simp⟩
      rw [h0] at this; cases this
    · obtain ⟨hun, oi, hoi, hall⟩ := mem_ready.1 hi
      have hisz : i < ops.size := (Array.getElem?_eq_some_iff.1 hoi).1
      have hil : i < listed.size := by rw [hsz]; exact hisz
      have hun' : listed'.getD i false = false := by
        rw [getD_of_size (by rw [hL.1]; exact hil)] at hun ⊢; exact hun
      have h2 := hL.2 i hil
      rw [hun'] at h2
      have h2 := h2.symm
      simp only [Bool.or_eq_false_iff] at h2
      obtain ⟨h3, hAi⟩ := h2
      have done : ∀ {y : Nat}, WaitsOn ops.toList i y → listed'.getD y false = true := fun {y} hr => hC.reach hr fun o ho e he hb => by rw [hoi] at ho; cases ho; exact hall e he hb
      have doneA : ∀ {y : Nat}, y ∈ l.map Prod.fst → WaitsOn ops.toList i y → A y = true := fun {y} hy hr => by
        obtain ⟨⟨y', ds'⟩, hq, rfl⟩ := List.mem_map.1 hy
        obtain ⟨_, w2, _, _, _⟩ := parEach_spec hEach hq
        have := done hr
        rw [hL.2 _ (un w2).1, (un w2).2] at this
        simpa using this
      have him : i ∈ l.map Prod.fst := by
        have := hRest i hisz
        simp only [Bool.or_eq_true, List.all_eq_true] at this
        rcases this with (h | h) | h
        · rw [getD_of_size hil] at h h3; rw [h3] at h; cases h
        · exact memB_ok h
        · exfalso
          have : ((l.map Prod.fst).filter fun x => !A x) = [] := by
            rw [List.filter_eq_nil_iff]
            intro y hy
            obtain ⟨q, hq, rfl⟩ := List.mem_map.1 hy
            have := doneA hy (bitOf_reach (h q hq))
            simp [this]
          rw [this] at hk; cases hk
      obtain ⟨⟨i', ds⟩, hq, rfl⟩ := List.mem_map.1 him
      obtain ⟨q1, q2, _, q4, q5⟩ := parEach_spec hEach hq
      have hds : ∀ y ∈ ds, A y = true := fun y hy => doneA (by
        rcases q4 y hy with h | h
        · cases h
        · exact h) (bitOf_reach (q5 y hy))
      refine Must.stepG (hstep A σ' hI i' ds hq hAi hds) a w ha fun a' w' σ'' h1 h2 h3 => ?_
      have hmem : Mem c.g Ls w' := h1.mem.sub hn (h2 q1)
      have hnc : ¬ Clean ms (listed'.setIfInBounds i' true) := fun h => by
        have h1 := h i' (hms _ him)
        rw [getD_of_size (by rw [Array.size_setIfInBounds, hL.1]; exact hil)] at h1
        simp at h1
      refine ⟨⟨fun _ => hmem, fun h => absurd h hnc⟩, ih (fun z => z == i' || A z) _ σ'' (fun x hx => ?_) ?_ ⟨by rw [Array.size_setIfInBounds]; exact hL.1, fun z hz => ?_⟩ (hC.set hi) h3 a' w' h1 hmem⟩
      · simp only [Bool.or_eq_true, beq_iff_eq] at hx
        rcases hx with rfl | hx
        · exact him
        · exact hA x hx
      · have nd : (l.map Prod.fst).Nodup := by
          have gen : ∀ (l : List (Nat × List Nat)) (E : List Nat), parEach ops (maskL ops.toList 0 .e) m listed E l = true → (l.map Prod.fst).Nodup := by
            intro l
            induction l with
            | nil => intro E _; simp
            | cons x r ihl =>
              intro E h
              have h' := h
              obtain ⟨x0, d0⟩ := x
              simp only [parEach] at h
              split at h
              · simp only [Bool.and_eq_true] at h
                simp only [List.map_cons, List.nodup_cons]
                refine ⟨fun hx => ?_, ihl _ h.2⟩
                obtain ⟨⟨y, ds'⟩, hy, e⟩ := List.mem_map.1 hx
                obtain ⟨_, _, w3, _, _⟩ := parEach_spec h.2 hy
                have e : y = x0 := e
                exact w3 (by rw [e]; exact List.mem_cons_self)
              · cases h
          exact gen l [] hEach
        have cnt : ∀ (L : List Nat), L.Nodup → i' ∈ L → (L.filter fun x => !A x).length = (L.filter fun x => !(x == i' || A x)).length + 1 := by
          intro L
          induction L with
          | nil => intro _ h; cases h
          | cons x r ihL =>
            intro hn hmem
            simp only [List.nodup_cons] at hn
            by_cases e : x = i'
            · subst e
              have hr : ∀ y ∈ r, (!(y == x || A y)) = !A y := fun y hy => by
                have : y ≠ x := fun e => hn.1 (e ▸ hy)
                simp [this]
              rw [List.filter_cons_of_pos (by simp [hAi]), List.filter_cons_of_neg (by simp), List.length_cons, List.filter_congr hr]
            · have hm' : i' ∈ r := by
                rcases List.mem_cons.1 hmem with h | h
                · exact absurd h.symm e
                · exact h
              have := ihL hn.2 hm'
              cases hAx : A x with
              | true => rw [List.filter_cons_of_neg (by simp [hAx]), List.filter_cons_of_neg (by simp [hAx])]; exact this
              | false => rw [List.filter_cons_of_pos (by simp [hAx]), List.filter_cons_of_pos (by simp [hAx, e]), List.length_cons, List.length_cons, this]
        have := cnt _ nd him
        omega
      · by_cases e : i' = z
        · subst e
          rw [getD_of_size (by rw [Array.size_setIfInBounds, hL.1]; exact hz)]
          simp
        · have := hL.2 z hz
          have e2 : (z == i') = false := by simpa using Ne.symm e
          simp only [e2, Bool.false_or]
          rw [← this]
          simp [Array.getElem?_setIfInBounds_ne e]
set_option maxHeartbeats 4000000 in
theorem WS_any {K : Exit → St → Prop} {Ls L0 : List (Nat × Obj)} {m : Nat} {ms : List Nat} (hs : Region.noSelect ops = true) (hlate : lateT ops.toList m = true) (hn : (Ls.map Prod.fst).Nodup) (hsub : ∀ w, Mem c.g L0 w → Mem c.g Ls w) :
    ∀ (p : Plan) (fresh : Bool) (fuel : Nat) (listed : Array Bool) (σ : St), (∀ j ∈ p.musts, j ∈ ms) → calmsOk ms p = true → (fresh = true → Clean ms listed) → Closed ops listed → listed.size = ops.size → planOk ops m p fuel listed = true → WS c ops K Ls L0 m ms fresh p σ → ∀ a w, Holds c.g c.N σ a w → (p.calms = true → Mem c.g Ls w) → (Clean ms listed → Mem c.g L0 w) → AnyK c ops K Ls L0 m ms fuel listed a w := by
  intro p
  induction p with
  | done =>
    intro fresh fuel listed σ _ _ _ _ _ hp h a w ha _ _
    simp only [planOk, Bool.and_eq_true, List.isEmpty_iff] at hp
    obtain ⟨hp, hf⟩ := hp
    obtain rfl := Nat.eq_of_beq_eq_true hf
    exact ⟨hp, σ, ha, h⟩
  | calm i p ih =>
    intro fresh fuel listed σ hms hcm hfr hclo hsz hp h a w ha hm hC
    cases fuel with
    | zero => cases hp
    | succ fuel =>
      simp only [planOk, Bool.and_eq_true, Nat.blt_eq] at hp
      obtain ⟨⟨⟨him, hf⟩, hr⟩, hp⟩ := hp
      simp only [calmsOk, Bool.and_eq_true, Bool.not_eq_true'] at hcm
      have hims : i ∉ ms := fun hx => by
        have := List.contains_iff_mem.2 hx
        rw [hcm.1] at this; cases this
      obtain ⟨o, v, X, ho, hd, hX, hq, hrest⟩ := h
      have hmem : Mem c.g Ls w := hm rfl
      have hcalm : Calm c ops X o v a := by
        rcases hq with ⟨hq, hg⟩ | ⟨j, want, og, dg, b, hg, hj, hdg, hb, hcase⟩
        · exact ⟨hq.1, .inl ⟨by simp [Region.wanted, hg], fun w hw => hq.2 a.eval (fun x u hu => ha.ev hu) w hw⟩⟩
        · have hy : ∀ b', b = .bool b' → Region.wanted o (yielded ops a.tmps) = (b' == want) := fun b' e => by
            subst e; exact wanted_yes ha hg hj hdg hb
          rcases hcase with ⟨hb', hq⟩ | ⟨hb', rfl, hnd⟩
          · exact ⟨hq.1, .inl ⟨by rw [hy _ hb']; simp, fun w hw => hq.2 a.eval (fun x u hu => ha.ev hu) w hw⟩⟩
          · refine ⟨hnd, .inr ⟨?_, rfl⟩⟩
            rcases hb' with hb' | hb'
            · rw [hy _ hb']; cases want <;> rfl
            · subst hb'; exact wanted_undef ha hg hj hdg hb
      refine AnyK.first (X := X) ho (Region.noSelect_spec hs) him hlate hims (hX.imp id fun h => ⟨h.1, h.2.1⟩) hsub fuel listed a w (Region.free_spec ho hf) hclo (by simpa using hr) hcalm hmem (hX.imp id fun h => hfr h.2.2) hC
        (ih fresh fuel _ _ hms hcm.2 (fun h => (hfr h).set hims) (hclo.set (by simpa using hr)) (by rw [Array.size_setIfInBounds]; exact hsz) hp hrest _ w (ha.put hd v) (fun _ => hmem) (fun h => hC h.back))
  | must i p ih =>
    intro fresh fuel listed σ hms hcm hfr hclo hsz hp h a w ha hm hC
    cases fuel with
    | zero => cases hp
    | succ fuel =>
      simp only [planOk, Bool.and_eq_true, beq_iff_eq] at hp
      obtain ⟨hr, hp⟩ := hp
      refine ⟨fun h0 => (by rw [hr] at h0; cases h0), fun j hj => ?_⟩
      have hj' := hj
      rw [hr] at hj
      obtain rfl := List.mem_singleton.1 hj
      exact Must.stepK hlate hn hclo hj' (hms j List.mem_cons_self) (fun σ' h' a' w' ha' hm' hC' => ih false fuel _ σ' (fun k hk => hms k (List.mem_cons_of_mem _ hk)) hcm (fun h => by cases h) (hclo.set hj') (by rw [Array.size_setIfInBounds]; exact hsz) hp h' a' w' ha' hm' hC') hp h a w ha
  | either i p j q ihp ihq =>
    intro fresh fuel listed σ hms hcm hfr hclo hsz hp h a w ha hm hC
    cases fuel with
    | zero => cases hp
    | succ fuel =>
      simp only [planOk, Bool.and_eq_true, beq_iff_eq] at hp
      obtain ⟨⟨hr, hp⟩, hq⟩ := hp
      simp only [calmsOk, Bool.and_eq_true] at hcm
      refine ⟨fun h0 => (by rw [hr] at h0; cases h0), fun k hk => ?_⟩
      have hk' := hk
      rw [hr] at hk
      rcases List.mem_cons.1 hk with rfl | hk
      · exact Must.stepK hlate hn hclo hk' (hms k List.mem_cons_self) (fun σ' h' a' w' ha' hm' hC' => ihp false fuel _ σ' (fun x hx => hms x (by simp [Plan.musts, hx])) hcm.1 (fun h => by cases h) (hclo.set hk') (by rw [Array.size_setIfInBounds]; exact hsz) hp h' a' w' ha' hm' hC') hp h.1 a w ha
      · obtain rfl := List.mem_singleton.1 hk
        exact Must.stepK hlate hn hclo hk' (hms k (by simp [Plan.musts])) (fun σ' h' a' w' ha' hm' hC' => ihq false fuel _ σ' (fun x hx => hms x (by simp [Plan.musts, hx])) hcm.2 (fun h => by cases h) (hclo.set hk') (by rw [Array.size_setIfInBounds]; exact hsz) hq h' a' w' ha' hm' hC') hq h.2 a w ha
  | par l p ih =>
    intro fresh fuel listed σ hms hcm hfr hclo hsz hp h a w ha hm hC
    simp only [planOk, Bool.and_eq_true] at hp
    obtain ⟨⟨hl, hle⟩, hp⟩ := hp
    have hle : l.length ≤ fuel := Nat.le_of_ble_eq_true hle
    obtain ⟨I, h0, hstep, hend⟩ := h
    have h1 := par_any (L0 := L0) (fuel := Nat.sub fuel l.length) hn hl hsz (fun x hx => hms x (List.mem_append_left _ hx)) hstep (fun A σ' hI hall a w ha hm hC => ih false _ _ σ' (fun x hx => hms x (List.mem_append_right _ hx)) hcm (fun h => by cases h) hC (by rw [(listAll_spec l listed).1]; exact hsz) hp (hend A σ' hI hall) a w ha (fun _ => hm) (fun h => ?_)) l.length (fun _ => false) listed σ (fun x hx => by cases hx) (by rw [List.filter_eq_self.2 (by simp)]; simp) ⟨rfl, fun z _ => by simp⟩ hclo h0 a w ha (hm rfl)
    · have e : l.length + Nat.sub fuel l.length = fuel := by
        show l.length + (fuel - l.length) = fuel
        omega
      rwa [e] at h1
    · exfalso
      simp only [parOk, Bool.and_eq_true] at hl
      obtain ⟨⟨g1, g2⟩, _⟩ := hl
      cases l with
      | nil => cases g1
      | cons q r =>
        obtain ⟨x, ds⟩ := q
        obtain ⟨_, w2, _, _, _⟩ := parEach_spec g2 (x := x) (ds := ds) (by simp)
        have hx := h x (hms x (List.mem_append_left _ (by simp)))
        have hlt : x < listed.size := by
          rcases Nat.lt_or_ge x listed.size with h' | h'
          · exact h'
          · simp [Array.getElem?_eq_none h'] at w2
        rw [(listAll_spec ((x, ds) :: r) listed).2 x hlt] at hx
        simp [memB] at hx
theorem WC_drawK {K : Exit → St → Prop} {σ : St} {id : Nat} (Ls : List (Nat × Obj)) (m : Nat) (p : Plan) (hm : c.P.follows .mixedOrders = true)
    (hok : (Region.noSelect ops && lateT ops.toList m && planOk ops m p ops.size (Array.replicate ops.size false)) = true) (hcm : calmsOk p.musts p = true) (hsub : Ls.Sublist σ.L) (h : WS c ops K Ls σ.L m p.musts true p σ) : WC c (.region id ops true) K σ := fun a w ha => by
  simp only [Bool.and_eq_true] at hok
  have ha' : Holds c.g c.N σ a { w with drawn := w.drawn + 1 } := ha.mem' ha.mem.drew
  exact Go.wpIn_mono (wpIn_region_any hm (AnyK.any _ _ _ _ (WS_any hok.1.1 hok.1.2 (ha.mem.nodup.sublist (hsub.map _)) (fun w hw => hw.sublist hsub) p true _ _ σ (fun _ h => h) hcm (fun _ j _ => by
    simp [Array.getElem?_replicate]; split <;> rfl) (fun j o _ hj => by
    rw [Array.getD_eq_getD_getElem?, Array.getElem?_replicate] at hj
    split at hj <;> cases hj) (by simp) hok.2 h a _ ha' (fun _ => ha'.mem.sublist hsub) (fun _ => ha'.mem)))) fun _ _ _ hl => hl.lift
end
end Go.Proofs.YtncgndcepoicbaaGreat
namespace Go.Proofs.YtncgndcepoicbaaGreat
open Go.RowKit
def RegS (ops : Array Oper) (a0 a : Act) : Prop := ∀ t, (∀ o ∈ ops.toList, o.dst ≠ some t) → a.tmps.getD t undef = a0.tmps.getD t undef
def PanI (I : Act → Prop) (Q : Exit → Act → World → Prop) : Exit → Act → World → Prop
  | .panic ch, a, w => Q (.panic ch) a w ∧ I a
  | e, a, w => Q e a w
theorem RegS.put {ops : Array Oper} {a0 a : Act} {o : Oper} (h : RegS ops a0 a) (ho : o ∈ ops.toList) (v : Value) : RegS ops a0 (a.put o.dst v) := fun t ht => by
  have hne := ht o ho
  rw [← h t ht]
  cases hd : o.dst with
  | none => rfl
  | some d =>
    have hdt : d ≠ t := fun e => hne (by rw [hd, e])
    simp [Act.put, Array.getElem?_setIfInBounds_ne hdt]
section
variable {F : Fence} {n : Nat} {P : Program} {Q : Exit → Act → World → Prop} {ops : Array Oper} {a0 : Act}
theorem wpIn_keepS {o : Oper} {a : Act} {w : World} {next : Act → World → Prop} (ho : o ∈ ops.toList) (hI : RegS ops a0 a) (h : o.wpIn F n P a w next Q) : o.wpIn F n P a w (fun a' w' => next a' w' ∧ RegS ops a0 a') (PanI (RegS ops a0) Q) := by
  unfold Oper.wpIn at *
  refine ⟨h.1, ?_⟩
  have hh := h.2
  generalize (o.semAt F.round a.eval).run P w = r at *
  cases r with
  | ok x w' =>
    cases x <;> simp only [Oper.uponIn] at hh ⊢
    case value u => exact ⟨hh, hI.put ho u⟩
    case skip => exact ⟨hh, hI.put ho undef⟩
    case defer d => exact ⟨hh, RegS.put (a := { a with defers := d :: a.defers }) hI ho undef⟩
    case enter f args =>
      refine ⟨hh.1, CallsIn.mono hh.2 fun e w'' he => ?_⟩
      cases e with
      | returned u => exact ⟨he, hI.put ho u⟩
      | panicked ch => exact ⟨he, hI⟩
      | outgrown => exact he
    case row row args => exact ⟨hh.1, RowsIn.mono hh.2 fun u w'' he => ⟨he, hI.put ho u⟩⟩
    case round l f tmps assign body =>
      refine ⟨hh.1, RoundIn.mono hh.2 fun e w'' he => ?_⟩
      cases e with
      | returned u => exact ⟨he, hI.put ho u⟩
      | panicked ch => exact ⟨he, hI⟩
      | outgrown => exact he
  | halt x w' =>
    cases x <;> simp only [Oper.uponIn] at hh ⊢
    case panic u => exact ⟨hh, hI⟩
theorem wpListIn_keepS : ∀ (l : List Oper) (a : Act) (w : World), (∀ o ∈ l, o ∈ ops.toList) → RegS ops a0 a → wpListIn F n P ops Q l a w → wpListIn F n P ops (PanI (RegS ops a0) Q) l a w
  | [], _, _, _, _, h => h
  | o :: r, a, w, hl, hI, h => by
    have ho := hl o List.mem_cons_self
    have hr := fun p hp => hl p (List.mem_cons_of_mem _ hp)
    simp only [wpListIn] at h ⊢
    split
    · rename_i hw
      rw [if_pos hw] at h
      exact Oper.wpIn_mono (fun a' w' h' => wpListIn_keepS r a' w' hr h'.2 h'.1) (wpIn_keepS ho hI h)
    · rename_i hw
      rw [if_neg hw] at h
      exact ⟨h.1, wpListIn_keepS r _ w hr (hI.put ho undef) h.2⟩
theorem wpOpIn_keepS {i : Nat} {Kn : Act → World → Prop} {a : Act} {w : World} (hI : RegS ops a0 a) (h : wpOpIn F n P ops Q i Kn a w) : wpOpIn F n P ops (PanI (RegS ops a0) Q) i (fun a' w' => Kn a' w' ∧ RegS ops a0 a') a w := by
  unfold wpOpIn at *
  cases ho : ops[i]? with
  | none => rw [ho] at h; exact ⟨h, hI⟩
  | some o =>
    rw [ho] at h
    have hm : o ∈ ops.toList := by
      obtain ⟨h1, h2⟩ := Array.getElem?_eq_some_iff.1 ho
      rw [← h2]; simp
    simp only at h ⊢
    split
    · rename_i hw
      rw [if_pos hw] at h
      exact wpIn_keepS hm hI h
    · rename_i hw
      rw [if_neg hw] at h
      exact ⟨h.1, h.2, hI.put hm undef⟩
theorem wpAnyIn_keepS {md : Region.Mode} : ∀ (fuel : Nat) (listed : Array Bool) (a : Act) (w : World), RegS ops a0 a → wpAnyIn F n P md ops Q fuel listed a w → wpAnyIn F n P md ops (PanI (RegS ops a0) Q) fuel listed a w
  | 0, _, _, _, _, h => h
  | fuel + 1, _, _, _, hI, h => ⟨h.1, fun i hi => wpOpIn_mono (fun a' w' h' => wpAnyIn_keepS fuel _ a' w' h'.2 h'.1) (wpOpIn_keepS hI (h.2 i hi))⟩
end
def keepS (ops : Array Oper) (s : List (Nat × Value)) : List (Nat × Value) := s.filter fun p => ops.toList.all fun o => decide (o.dst ≠ some p.1)
theorem look_keepS {ops : Array Oper} {t : Nat} {v : Value} : ∀ {s : List (Nat × Value)}, look (keepS ops s) t = some v ↔ look s t = some v ∧ ∀ o ∈ ops.toList, o.dst ≠ some t
  | [] => by simp [keepS, look]
  | (k, u) :: r => by
    have ih := look_keepS (ops := ops) (t := t) (v := v) (s := r)
    unfold keepS at ih ⊢
    rw [List.filter_cons, look_cons]
    by_cases hk : (ops.toList.all fun o => decide (o.dst ≠ some k)) = true
    · simp only [hk, if_true]
      rw [look_cons]
      by_cases e : k = t
      · subst e
        rw [if_pos rfl, if_pos rfl]
        simp only [List.all_eq_true, decide_eq_true_eq] at hk
        exact ⟨fun h => ⟨h, hk⟩, fun h => h.1⟩
      · rw [if_neg e, if_neg e]; exact ih
    · simp only [hk, Bool.false_eq_true, if_false]
      by_cases e : k = t
      · subst e
        rw [if_pos rfl, ih]
        simp only [List.all_eq_true, decide_eq_true_eq] at hk
        exact ⟨fun h => absurd h.2 hk, fun h => absurd h.2 hk⟩
      · rw [if_neg e]; exact ih
section
variable {c : Cx}
theorem lift_of_panI {ops : Array Oper} {K0 K : Exit → St → Prop} {σ : St} {a0 : Act} {w0 : World} (ha : Holds c.g c.N σ a0 w0) (hk : ∀ e σ', (∀ ch, e ≠ .panic ch) → K0 e σ' → K e σ') (hp : ∀ ch D L, K0 (.panic ch) ⟨[], D, L⟩ → K (.panic ch) ⟨keepS ops σ.s, D, L⟩) {e : Exit} {a : Act} {w : World} (h : PanI (RegS ops a0) (liftO c K0) e a w) : lift c K e a w := by
  cases e with
  | panic ch =>
    obtain ⟨⟨D, L, h1, h2⟩, h3⟩ := h
    refine ⟨⟨keepS ops σ.s, D, L⟩, ⟨h1.size, fun t v hv => ?_, h1.defers, h1.mem⟩, hp ch D L h2⟩
    obtain ⟨h4, h5⟩ := look_keepS.1 hv
    rw [h3 t h5]; exact ha.slots t v h4
  | normal => obtain ⟨σ', h1, h2⟩ := h; exact ⟨σ', h1, hk _ _ (by simp) h2⟩
  | ret => obtain ⟨σ', h1, h2⟩ := h; exact ⟨σ', h1, hk _ _ (by simp) h2⟩
  | exit id => obtain ⟨σ', h1, h2⟩ := h; exact ⟨σ', h1, hk _ _ (by simp) h2⟩
  | goto l => obtain ⟨σ', h1, h2⟩ := h; exact ⟨σ', h1, hk _ _ (by simp) h2⟩
  | outgrown => obtain ⟨σ', h1, h2⟩ := h; exact ⟨σ', h1, hk _ _ (by simp) h2⟩
theorem WC_regionP {id : Nat} {l : List Oper} {K0 K : Exit → St → Prop} {σ : St} (hk : ∀ e σ', (∀ ch, e ≠ .panic ch) → K0 e σ' → K e σ') (hp : ∀ ch D L, K0 (.panic ch) ⟨[], D, L⟩ → K (.panic ch) ⟨keepS l.toArray σ.s, D, L⟩) (h : WL c l.toArray l K0 σ) : WC c (.region id l.toArray false) K σ := fun a w ha =>
  Go.wpIn_mono (wpIn_region_lit (wpListIn_keepS l a w (fun _ h => by simpa using h) (fun _ _ => rfl) (h a w ha))) fun _ _ _ hl => lift_of_panI ha hk hp hl
end
abbrev pan (v : Value) : List PanicEntry := [{ v, recovered := false }]
def FnP (P : Program) (f : FuncId) (args : List Value) (L : List (Nat × Obj)) (R : Value → List (Nat × Obj) → Prop) : Prop :=
  ∀ g w, Mem g L w → Calls P f args.toArray w fun e w' => ∃ v L', e = .panicked (pan v) ∧ Mem g L' w' ∧ R v L'
def FnD (P : Program) (f : FuncId) (args : List Value) (L : List (Nat × Obj)) (u : FrameMode) (R : FrameMode → List (Nat × Obj) → Prop) : Prop :=
  ∀ g w n, Mem g L w → CallsDIn Fence.wide n P f args.toArray u w fun e u' w' => ∃ v L', e = .returned v ∧ Mem g L' w' ∧ R u' L'
section
variable {c : Cx} {o : Oper} {Kn : St → Prop} {K : Exit → St → Prop} {σ : St}
theorem OW_callvP {f : FuncId} {x : Operand} {A B : Array Value} {args : Array Operand} {tys : Array TypeId} [hf : FCall c.P f] {vs : List Value} {R : Value → List (Nat × Obj) → Prop}
    (ho : o.op = .call { callee := .value x, args := args, argTypes := tys }) (hx : ev σ.s x = some (.func (.func f) A B)) (ha : evs σ.s args.toList = some vs) (hF : FnP c.P f (A.toList ++ vs ++ B.toList) σ.L R) (hk : ∀ v L', R v L' → K (.panic (pan v)) ⟨[], σ.D, L'⟩) : OW c o Kn K σ := fun a w hH => by
  refine ⟨fun _ _ => trivial, ?_⟩
  have hargs : args.map a.eval = vs.toArray := by
    apply Array.ext'
    simpa using hH.evs ha
  have hr : (execOp a.eval o).run c.P w = .ok (.enter f (A.toList ++ vs ++ B.toList).toArray) w := by
    have e : (A.toList ++ vs ++ B.toList).toArray = A ++ vs.toArray ++ B := by apply Array.ext'; simp
    rw [e]
    simp [execOp, ho, resolve, Deferred.ofValue, hH.ev hx, hargs, invoke, hf.h]
  rw [Oper.semAt_eq _ _ _ (by rw [ho]; intro cc h; cases h), hr]
  refine ⟨fun h => by simp at h, (callsIn_fw c.r _ (hF c.g w hH.mem)).mono fun e w' ⟨v, L', h1, h2, h3⟩ => ?_⟩
  subst h1
  exact ⟨σ.D, L', ⟨hH.size, (fun t u hu => by cases hu), hH.defers, h2⟩, hk v L' h3⟩
theorem OW_panic {x : Operand} {t : TypeId} {v : Value} (ho : o.op = .panic x) (hx : ev σ.s x = some (.iface t v)) (hk : K (.panic (pan (.iface t v))) ⟨[], σ.D, σ.L⟩) : OW c o Kn K σ := fun a w hH => by
  refine ⟨fun _ _ => trivial, ?_⟩
  have hr : (execOp a.eval o).run c.P w = .halt (.panic (.iface t v)) w := by
    simp [execOp, ho, Instr.panic, hH.ev hx, goPanic]
  rw [Oper.semAt_eq _ _ _ (by rw [ho]; intro cc h; cases h), hr]
  exact ⟨σ.D, σ.L, ⟨hH.size, (fun t u hu => by cases hu), hH.defers, hH.mem⟩, hk⟩
theorem OW_defer {f : FuncId} {x : Operand} {A B : Array Value} {args : Array Operand} {tys : Array TypeId} {vs : List Value} (hr : c.r = none)
    (ho : o.op = .defer { callee := .value x, args := args, argTypes := tys }) (hx : ev σ.s x = some (.func (.func f) A B)) (ha : evs σ.s args.toList = some vs) (hd : dok c.N o.dst = true) (hk : Kn (St.put ⟨σ.s, { target := .fn (.func f) B, args := (A.toList ++ vs).toArray } :: σ.D, σ.L⟩ o.dst undef)) : OW c o Kn K σ := fun a w hH => by
  refine ⟨fun _ _ => trivial, ?_⟩
  have hargs : args.map a.eval = vs.toArray := by
    apply Array.ext'
    simpa using hH.evs ha
  have hrun : (o.semAt (Fw c.r).round a.eval).run c.P w = .ok (.defer { target := .fn (.func f) B, args := (A.toList ++ vs).toArray }) w := by
    have e : (A.toList ++ vs).toArray = A ++ vs.toArray := by apply Array.ext'; simp
    rw [e, hr]
    show (execOp a.eval o).run c.P w = _
    simp [execOp, ho, resolve, Deferred.ofValue, hH.ev hx, hargs]
  rw [hrun]
  refine ⟨_, ?_, hk⟩
  refine Holds.put (σ := ⟨σ.s, { target := .fn (.func f) B, args := (A.toList ++ vs).toArray } :: σ.D, σ.L⟩) (a := { a with defers := { target := .fn (.func f) B, args := (A.toList ++ vs).toArray } :: a.defers }) ⟨hH.size, hH.slots, ?_, hH.mem⟩ hd undef
  show _ :: a.defers = _
  rw [hH.defers]
end
def LeavS (c : Cx) (fn : Func) (s : List (Nat × Value)) (Rr Rp : Value → List (Nat × Obj) → Prop) : List Deferred → FrameMode → List (Nat × Obj) → Prop
  | [], .returning, L => ∃ v Lx, Res c fn ⟨s, [], L⟩ v ∧ Lx.Sublist L ∧ Rr v Lx
  | [], .panicking ch, L => ∃ v, ch = pan v ∧ Rp v L
  | [], .run, _ => False
  | d :: ds, u, L => u ≠ .run ∧ ((∃ r i L1, d = markD r ∧ L[i]? = some (r, .deferred (some [])) ∧ setL L i (r, .deferred none) = some L1 ∧ LeavS c fn s Rr Rp ds u L1) ∨
      (∃ f A B, d = { target := .fn (.func f) B, args := A } ∧ FCall c.P f ∧ FnD c.P f (A.toList ++ B.toList) L u fun u' L' => LeavS c fn s Rr Rp ds (settle u') L'))
def EndR (g : World) (Rr Rp : Value → List (Nat × Obj) → Prop) (e : Ending) (w' : World) : Prop := (∃ v L', e = .returned v ∧ Mem g L' w' ∧ Rr v L') ∨ ∃ v L', e = .panicked (pan v) ∧ Mem g L' w' ∧ Rp v L'
theorem LeavS.leaves {P : Program} {g : World} {N : Nat} {fn : Func} {Rr Rp : Value → List (Nat × Obj) → Prop} : ∀ (ds : List Deferred) (u : FrameMode) (s : List (Nat × Value)) (L : List (Nat × Obj)) (a : Act) (w : World), Holds g N ⟨s, [], L⟩ { a with defers := [] } w → LeavS ⟨P, g, N, 0, none⟩ fn s Rr Rp ds u L → LeavesInM Fence.wide 0 P fn a.tmps (EndR g Rr Rp) ds u w
  | [], .returning, s, L, a, w, hH, ⟨v, Lx, h1, h2, h3⟩ => ⟨v, h1 { a with defers := [] } w hH, .inl ⟨v, Lx, rfl, hH.mem.sublist h2, h3⟩⟩
  | [], .panicking ch, s, L, a, w, hH, ⟨v, h1, h2⟩ => .inr ⟨v, L, by rw [h1], hH.mem, h2⟩
  | [], .run, _, _, _, _, _, h => h.elim
  | d :: ds, u, s, L, a, w, hH, ⟨hu, .inl ⟨r, i, L1, hd, hi, hs, hM⟩⟩ => by
    subst hd
    have hm' := hH.mem.putObj hi (.deferred none)
    rw [setL_eq hs] at hm'
    exact ⟨hu, .inl ⟨r, w.putObj r (.deferred none), rfl, run_takeDeferred (hH.mem.at_ hi), LeavS.leaves ds u s L1 a _ (hH.mem' hm') hM⟩⟩
  | d :: ds, u, s, L, a, w, hH, ⟨hu, .inr ⟨f, A, B, hd, hf, hD⟩⟩ => by
    subst hd
    refine ⟨hu, .inr ⟨fun h => by simp [Fence.wide] at h, .func f, B, f, A ++ B, rfl, by simp [invoke, hf.h], fun _ _ => trivial, ?_⟩⟩
    have h1 := hD g w (0 - 1) hH.mem
    have e : (A.toList ++ B.toList).toArray = A ++ B := by apply Array.ext'; simp
    rw [e] at h1
    refine h1.mono fun e u' w' ⟨v, L', h2, h3, h4⟩ => ?_
    subst h2
    exact LeavS.leaves ds (settle u') s L' a w' (hH.mem' h3) h4
def postL (c : Cx) (fn : Func) (Rr Rp : Value → List (Nat × Obj) → Prop) : Exit → St → Prop
  | .normal, σ | .ret, σ => LeavS c fn σ.s Rr Rp σ.D .returning σ.L
  | .panic ch, σ => LeavS c fn σ.s Rr Rp σ.D (.panicking ch) σ.L
  | _, _ => False
theorem holds_init {g w : World} {N n : Nat} {args : List Value} {L : List (Nat × Obj)} (hN : n = N) (hl : Nat.ble args.length N = true) (hm : Mem g L w) : Holds g N ⟨initS 0 args, [], L⟩ { tmps := args.toArray ++ Array.replicate (n - args.toArray.size) undef, defers := [] } w := by
  have hle : args.length ≤ N := Nat.le_of_ble_eq_true hl
  refine ⟨?_, ?_, rfl, hm⟩
  · simp only [hN, Array.size_append, List.size_toArray, Array.size_replicate]; omega
  · intro t v hv
    obtain ⟨_, h2⟩ := look_initS args 0 t v hv
    simp only [Nat.sub_zero] at h2
    have hlt : t < args.length := (List.getElem?_eq_some_iff.1 h2).1
    simp [Array.getElem?_append, hlt] at h2 ⊢
    simp [h2]
section
variable {P : Program} {f : FuncId} {fn : Func} {code : Code} {args : List Value} {L : List (Nat × Obj)} {N : Nat}
theorem enterL {Rr Rp : Value → List (Nat × Obj) → Prop} (hf : P.funcs[f]? = some fn) (hb : fn.body = some code) (hN : fn.ntmps = N) (hl : Nat.ble args.length N = true)
    (h : ∀ g, WC ⟨P, g, N, 0, none⟩ code (postL ⟨P, g, N, 0, none⟩ fn Rr Rp) ⟨initS 0 args, [], L⟩) : ∀ g w, Mem g L w → Calls P f args.toArray w (EndR g Rr Rp) := fun g w hm => by
  refine (callsIn_wide (n := 0)).1 (callsIn_of_wp_marks hf hb trivial (Go.wpIn_mono (h g _ w (holds_init hN hl hm)) fun e a' w' hl => ?_) rfl)
  obtain ⟨σ, h1, h2⟩ := hl
  have key : ∀ u, LeavS ⟨P, g, N, 0, none⟩ fn σ.s Rr Rp σ.D u σ.L → LeavesInM Fence.wide 0 P fn a'.tmps (EndR g Rr Rp) a'.defers u w' := fun u hu => by
    rw [h1.defers]; exact LeavS.leaves σ.D u σ.s σ.L a' w' ⟨h1.size, h1.slots, rfl, h1.mem⟩ hu
  cases e with
  | normal => exact key _ h2
  | ret => exact key _ h2
  | panic ch => exact key _ h2
  | exit id => exact h2.elim
  | goto l => exact h2.elim
  | outgrown => exact h2.elim
def Recov : FrameMode → Value → FrameMode → Prop
  | .returning, rv, u' => rv = .nilIface ∧ u' = .returning
  | .panicking [{ v, recovered := false, goexit := false }], rv, u' => rv = v ∧ u' = .panicking [{ v, recovered := true }]
  | _, _, _ => False
def QS (c : Cx) (L : List (Nat × Obj)) : List Oper → List (Nat × Value) → List (Nat × Value) → Prop
  | [], s, s' => s' = s
  | o :: r, s, s' => ∃ v, o.guard = none ∧ dok c.N o.dst = true ∧ Qt c s L o v ∧ QS c L r (St.put ⟨s, [], []⟩ o.dst v).s s'
theorem wpOpsSIn_calm {F : Fence} {n : Nat} {P : Program} {g : World} {N m : Nat} {ops : Array Oper} {Q : Exit → Act → List Frame → World → Prop} {cs : List Frame} {w : World} {D : List Deferred} {L : List (Nat × Obj)} (hF : ∀ f, F.fn f) {s' : List (Nat × Value)} :
    ∀ (r : List Oper) (k : Nat) (a : Act) (s : List (Nat × Value)), (∀ i o, r[i]? = some o → ops[k + i]? = some o) → Holds g N ⟨s, D, L⟩ a w → QS ⟨P, g, N, m, none⟩ L r s s' → (∀ a', Holds g N ⟨s', D, L⟩ a' w → Q .normal a' cs w) → wpOpsSIn F n P ops Q (List.range' k r.length) a cs w
  | [], k, a, s, _, ha, hq, hk => by
    have hq : s' = s := hq
    subst hq
    exact hk a ha
  | o :: r, k, a, s, hops, ha, ⟨v, hg, hd, hq, hrest⟩, hk => by
    rw [List.length_cons, List.range'_succ]
    have ho : ops[k]? = some o := hops 0 o rfl
    have hrun : (execOp a.eval o).run P w = .ok (.value v) w := hq.2 a.eval (fun x u hu => ha.ev hu) w ha.mem
    simp only [wpOpsSIn, ho, Region.wanted, hg, if_true, hrun]
    refine ⟨fun f _ => hF f, ?_⟩
    refine wpOpsSIn_calm hF r (k + 1) _ _ (fun i o' h => ?_) ?_ hrest hk
    · have := hops (i + 1) o' (by simpa using h)
      rwa [show k + 1 + i = k + (i + 1) by omega]
    · have := ha.put hd v
      have e : St.put ⟨s, D, L⟩ o.dst v = ⟨(St.put ⟨s, [], []⟩ o.dst v).s, D, L⟩ := by cases o.dst <;> rfl
      rwa [e] at this
set_option maxHeartbeats 4000000 in
theorem FnD_recover {u u' : FrameMode} {rv : Value} {id : Nat} {o : Oper} {more : List Oper} {rest : Code} {args' : Array Operand} {tys : Array TypeId} {R : FrameMode → List (Nat × Obj) → Prop} (hf : P.funcs[f]? = some fn) (hb : fn.body = some (.seq (.region id (o :: more).toArray false) rest)) (hN : fn.ntmps = N) (hl : Nat.ble args.length N = true)
    (ho : o.op = .call { callee := .builtin .recover, args := args', argTypes := tys }) (hg : o.guard = none) (hd : dok N o.dst = true) (hu : Recov u rv u')
    (h : ∀ g n, ∃ s', QS ⟨P, g, N, n, none⟩ L more (St.put ⟨initS 0 args, [], L⟩ o.dst rv).s s' ∧ WC ⟨P, g, N, n, none⟩ rest (postK ⟨P, g, N, n, none⟩ fn fun _ L' => R u' L') ⟨s', [], L⟩) : FnD P f args L u R := fun g w n hm => by
  refine callsDIn_of_wpSIn hf hb trivial fun c₀ cs hc => wpSIn_seq (wpSIn_region ?_)
  have hH := holds_init (n := fn.ntmps) hN hl hm
  generalize ({ tmps := args.toArray ++ Array.replicate (fn.ntmps - args.toArray.size) undef, defers := [] } : Act) = a at hH ⊢
  have hsem : (execOp a.eval o).run P w = .ok .recover w := by
    simp [execOp, ho, resolve, invoke, Go.builtin]
  obtain ⟨s', hqs, hW⟩ := h g n
  have hput : St.put ⟨initS 0 args, [], L⟩ o.dst rv = ⟨(St.put ⟨initS 0 args, [], L⟩ o.dst rv).s, [], L⟩ := by cases o.dst <;> rfl
  have hrest : ∀ cs', cs' = { c₀ with mode := u' } :: cs → wpOpsSIn Fence.wide n P (o :: more).toArray (Exit.thenS (rest.wpSIn Fence.wide n P (bodyPostS P fn c₀ cs fun e u' w' => ∃ v L', e = .returned v ∧ Mem g L' w' ∧ R u' L')) (bodyPostS P fn c₀ cs fun e u' w' => ∃ v L', e = .returned v ∧ Mem g L' w' ∧ R u' L')) (List.range' 1 more.length) (a.put o.dst rv) cs' w := fun cs' hcs' => by
    have h1 := hH.put hd rv
    rw [hput] at h1
    refine wpOpsSIn_calm (fun _ => trivial) more 1 _ _ (fun i o' h => by simpa [Nat.add_comm] using h) h1 hqs fun a' ha' => ?_
    refine wpSIn_of_wpIn rfl (Go.wpIn_mono (hW a' w ha') fun e a' w' hl => ?_)
    obtain ⟨σ, h1, h2⟩ := hl
    cases e with
    | normal => obtain ⟨h2, v, Lx, h3, hs, h4⟩ := h2; exact ⟨by rw [h1.defers, h2], u', hcs', v, h3 a' w' h1, v, Lx, rfl, h1.mem.sublist hs, h4⟩
    | ret => obtain ⟨h2, v, Lx, h3, hs, h4⟩ := h2; exact ⟨by rw [h1.defers, h2], u', hcs', v, h3 a' w' h1, v, Lx, rfl, h1.mem.sublist hs, h4⟩
    | panic ch => exact h2.elim
    | exit id => exact h2.elim
    | goto l => exact h2.elim
    | outgrown => exact h2.elim
  have hrange : List.range (o :: more).toArray.size = 0 :: List.range' 1 more.length := by
    rw [List.range_eq_range', List.size_toArray, List.length_cons, List.range'_succ]
  rw [hrange]
  simp only [wpOpsSIn, List.getElem?_toArray, List.getElem?_cons_zero, Region.wanted, hg, if_true, hsem]
  refine ⟨fun _ _ => trivial, ?_⟩
  unfold Recov at hu
  split at hu
  · obtain ⟨rfl, rfl⟩ := hu
    have hrec : recoverD (c₀ :: cs) = none := by simp [recoverD, hc]
    rw [hrec]
    exact hrest _ (by rw [← hc])
  · obtain ⟨rfl, rfl⟩ := hu
    have hrec : recoverD (c₀ :: cs) = some (rv, { c₀ with mode := .panicking [{ v := rv, recovered := true }] } :: cs) := by simp [recoverD, hc]
    rw [hrec]
    exact hrest _ rfl
  · exact hu.elim
end
end Go.Proofs.YtncgndcepoicbaaGreat
namespace Go.Proofs.YtncgndcepoicbaaGreat
open Go.RowKit
noncomputable section
section
variable {c : Cx} {s : List (Nat × Value)} {L : List (Nat × Obj)} {o : Oper}
theorem Qt_of_run {v : Value} (hd : ∀ cc, o.op ≠ .defer cc) (h : ∀ ρ : Operand → Value, (∀ x u, ev s x = some u → ρ x = u) → ∀ w, Mem c.g L w → (execOp ρ o).run c.P w = .ok (.value v) w) : Qt c s L o v := ⟨hd, h⟩
end
end
end Go.Proofs.YtncgndcepoicbaaGreat
namespace Go.Proofs.YtncgndcepoicbaaGreat
open Go.RowKit
noncomputable section
section
variable {c : Cx} {σs : List (Nat × Value)} {Ls : List (Nat × Obj)} {o : Oper}
theorem run_equalIn_iface {P : Program} (w : World) (d : Nat) (t : TypeId) {ms : Array (String × TypeId)} (h : P.underlying t = some (.interface ms)) :
    (Op.equalIn (d + 1) t .nilIface .nilIface).run P w = .ok true w ∧ ∀ (u : TypeId) (v : Value), (Op.equalIn (d + 1) t (.iface u v) .nilIface).run P w = .ok false w ∧ (Op.equalIn (d + 1) t .nilIface (.iface u v)).run P w = .ok false w := by
  refine ⟨?_, fun u v => ⟨?_, ?_⟩⟩
  · simp [Op.equalIn, run_underlying h]
  · simp [Op.equalIn, run_underlying h]
  · simp [Op.equalIn, run_underlying h]
end
end
end Go.Proofs.YtncgndcepoicbaaGreat
namespace Go.Proofs.YtncgndcepoicbaaGreat
open Go.RowKit
noncomputable section
attribute [local irreducible] T.put T.set
theorem nodup_wlog {c : Cx} {o : Oper} {Kn : St → Prop} {K : Exit → St → Prop} {σ : St} (h : (σ.L.map Prod.fst).Nodup → OW c o Kn K σ) : OW c o Kn K σ := fun a w ha => h ha.mem.nodup a w ha
end
end Go.Proofs.YtncgndcepoicbaaGreat
namespace Go.Proofs.YtncgndcepoicbaaGreat
open Go.RowKit
noncomputable section
attribute [local irreducible] T.put T.set
section
variable {c : Cx} {o : Oper} {K : Exit → St → Prop} {σ : St} {M F : List (Nat × Obj)} {d : Nat} 
theorem run_append_in_src {P : Program} (w : World) (t tx ty e : TypeId) (i : TypeInfo) (ht : P.underlying t = some (.slice e)) (hi : P.info? e = some i)
    (g off sLen sCap : Nat) (cur : Array Value) (hg : w.heap[g]? = some (.cells cur e (0, 0)))
    (x : Value) (m : Nat) (news : List Value) (hs : Src P i.size tx x m news w)
    (hroom : sLen + m ≤ sCap) (hfit : off + sLen * i.size + news.length ≤ cur.size) :
    (Builtin.append_ #[t, tx] ty #[.slice (some ⟨g, off, none⟩) sLen sCap, x]).run P w =
      .ok (.slice (some ⟨g, off, none⟩) (sLen + m) sCap) (w.setRow g (putR cur (off + sLen * i.size) news.toArray)) := by
  have hst := run_storeCells_at P g (off + sLen * i.size) e news 0 cur w hg (by simpa using hfit) hs.one
  simp only [Nat.add_zero] at hst
  rcases hs.kind with ⟨e', hk⟩ | hk <;> simp [Builtin.append_, run_underlying ht, run_underlying hk, sizeOf, typeInfo, hi, hs.len, hroom, hs.cells, Addr.add_mid, hst, putR]
set_option maxHeartbeats 4000000 in
theorem OW_append_src {c : Cx} {o : Oper} {Kn : St → Prop} {K : Exit → St → Prop} {s : List (Nat × Value)} {D : List Deferred} {L : List (Nat × Obj)} {t t2 E size by_ d : Nat} {z : Array Value} [hu : TUnd c.P t (.slice E)] [hrow : TRow c.P E z size by_] {x y : Operand}
    (ho : o.op = .call { callee := .builtin .append, args := #[x, y], argTypes := #[t, t2] }) (hdst : o.dst = some d) (hd : Nat.blt d c.N = true) {g off n cap : Nat} {cur : Array Value} (hx : ev s x = some (.slice (some ⟨g, off, none⟩) n cap)) (i : Nat) (hs : SlAt L i g off n cap E size cur)
    {m : Nat} {y' : Value} {news : List Value} (hy : ev s y = some y') (hsrc : ∀ a w, Holds c.g c.N ⟨s, D, L⟩ a w → Src c.P size t2 y' m news w)
    (hmax : n + m ≤ maxLen) (hby : (n + m) * by_ ≤ 140737488355328)
    (hk : ∀ g' off' cap' cur' L', setL L i (g', .cells cur' E (0, 0)) = some L' → SlAt L' i g' off' (n + m) cap' E size cur' → cur'.extract off' (off' + (n + m) * size) = cur.extract off (off + n * size) ++ news.toArray → Kn ⟨(d, .slice (some ⟨g', off', none⟩) (n + m) cap') :: s, D, L'⟩) : OW c o Kn K ⟨s, D, L⟩ := fun a w ha => by
  refine ⟨fun _ _ => trivial, ?_⟩
  obtain ⟨ii, zz, r1, r2, r3, r4, r5, r6⟩ := hrow.h
  have hsr := hsrc a w ha
  have hlen := hsr.newsLen
  have hset : ∀ (L : List (Nat × Obj)) (i : Nat) (p q : Nat × Obj), L[i]? = some q → setL L i p = some (L.set i p) := by
    intro L
    induction L with
    | nil => intro i p q h; simp at h
    | cons x r ih =>
      intro i p q h
      cases i with
      | zero => rfl
      | succ i => simp only [List.getElem?_cons_succ] at h; simp [setL, ih i p q h]
  have hat : ∀ (L : List (Nat × Obj)) (i : Nat) (p q : Nat × Obj), L[i]? = some q → (L.set i p)[i]? = some p := by
    intro L i p q h
    obtain ⟨hlt, _⟩ := List.getElem?_eq_some_iff.1 h
    simp [hlt]
  have hz : news.toArray.size = m * size := by simpa using hlen
  by_cases hroom : n + m ≤ cap
  · have hfit1 : off + n * size + news.toArray.size ≤ cur.size := by
      have h2 := hs.fit
      have h3 : (n + m) * size ≤ cap * size := Nat.mul_le_mul_right _ hroom
      rw [Nat.add_mul] at h3
      omega
    have hr := run_append_in_src (P := c.P) w t t2 o.type E ii hu.h r1 g off n cap cur (ha.mem.at_ hs.at_) y' m news (by rw [r4]; exact hsr) hroom (by rw [r4]; simpa using hfit1)
    have hr' : (execOp a.eval o).run c.P w = .ok (.value (.slice (some ⟨g, off, none⟩) (n + m) cap)) (w.setRow g (putR cur (off + n * size) news.toArray)) := by
      rw [r4] at hr
      simp [execOp, ho, resolve, invoke, builtin, ha.ev hx, ha.ev hy, hr]
    rw [Oper.semAt_eq _ _ _ (by rw [ho]; intro cc h; cases h), hr']
    have hps := putR_size cur news.toArray (off + n * size) hfit1
    refine ⟨_, ?_, hk g off cap (putR cur (off + n * size) news.toArray) _ (hset _ _ _ _ hs.at_) ⟨hat _ _ _ _ hs.at_, hroom, hs.max, by rw [hps]; exact hs.fit⟩ ?_⟩
    · rw [hdst]
      exact (ha.mem' (ha.mem.setRow hs.at_ _)).put (d := some d) hd _
    · apply Array.ext_getElem?
      intro q
      rw [Array.getElem?_extract, Array.getElem?_append, Array.getElem?_extract, hps]
      have hsz : (cur.extract off (off + n * size)).size = n * size := by simp; omega
      rw [hsz]
      rw [Nat.add_mul]
      by_cases hq : q < n * size
      · rw [if_pos (by omega), if_pos hq, if_pos (by omega), putR_get_out _ _ _ _ hfit1 (by omega)]
      · rw [if_neg hq]
        by_cases hq2 : q < n * size + m * size
        · rw [if_pos (by omega)]
          have := putR_get_in cur news.toArray (off + n * size) (q - n * size) hfit1 (by omega)
          rw [show off + n * size + (q - n * size) = off + q by omega] at this
          exact this
        · rw [if_neg (by omega), Array.getElem?_eq_none (by omega)]
  · have hold := cells_at ha.mem hs.at_ off (n * size)
    have h3 : n * size ≤ cap * size := Nat.mul_le_mul_right _ hs.le
    have hfit0 := hs.fit
    have hsz : (cur.extract off (off + n * size)).size = n * size := by simp; omega
    have hr := run_append_grow_src (P := c.P) w t t2 o.type E ii zz hu.h r1 r2 (some ⟨g, off, none⟩) n cap (cur.extract off (off + n * size)).toList (run_firstCells_some w.drew ii.size n ⟨g, off, none⟩ n cap _ (by rw [Array.length_toList, hsz, r4]) (by simpa using hold)) y' m news (by rw [r4]; exact hsr) (by omega) (by simp only [maxLen] at hmax; omega) (growslice_fits (by omega) (by rw [r5]; exact hby))
    rw [r3] at hr
    obtain ⟨cap', hcap'⟩ : ∃ q, grownCap w (n + m) cap E = q := ⟨_, rfl⟩
    have hge := grownCap_ge w (n + m) cap E
    have hcm := grownCap_le_maxLen w (n + m) cap E hmax
    rw [hcap'] at hr hge hcm
    have e0 : ((cur.extract off (off + n * size)).toList ++ news).toArray = cur.extract off (off + n * size) ++ news.toArray := by apply Array.ext'; simp
    rw [e0] at hr
    have hr' : (execOp a.eval o).run c.P w = .ok (.value (.slice (some ⟨w.heap.size, 0, none⟩) (n + m) cap')) (w.drew.alloc (.cells (cur.extract off (off + n * size) ++ news.toArray ++ Builtin.zeroCells z (cap' - (n + m))) E)) := by
      simp [execOp, ho, resolve, invoke, builtin, ha.ev hx, ha.ev hy, hr]
    rw [Oper.semAt_eq _ _ _ (by rw [ho]; intro cc h; cases h), hr']
    have hN : (cur.extract off (off + n * size) ++ news.toArray).size = (n + m) * size := by rw [Array.size_append, hsz, hz, Nat.add_mul]
    refine ⟨_, ?_, hk w.heap.size 0 cap' (cur.extract off (off + n * size) ++ news.toArray ++ Builtin.zeroCells z (cap' - (n + m))) _ (hset _ _ _ _ hs.at_) ⟨hat _ _ _ _ hs.at_, hge, hcm, ?_⟩ ?_⟩
    · rw [hdst]
      have hm1 := (ha.mem.drew).alloc (.cells (cur.extract off (off + n * size) ++ news.toArray ++ Builtin.zeroCells z (cap' - (n + m))) E)
      have hm2 : Mem c.g (L.set i (w.heap.size, .cells (cur.extract off (off + n * size) ++ news.toArray ++ Builtin.zeroCells z (cap' - (n + m))) E)) _ :=
        (hm1.perm (L' := (w.heap.size, .cells (cur.extract off (off + n * size) ++ news.toArray ++ Builtin.zeroCells z (cap' - (n + m))) E) :: L) (.refl _)).sublist ((List.eraseIdx_sublist L i).cons_cons _) |>.perm (set_perm hs.at_ _)
      exact (ha.mem' hm2).put (d := some d) hd _
    · rw [Array.size_append, hN, size_zeroCells, r6, ← Nat.add_mul]
      have : n + m + (cap' - (n + m)) = cap' := by omega
      rw [this]; omega
    · rw [Nat.zero_add, ← hN]
      exact extract_left _ _
end
end
end Go.Proofs.YtncgndcepoicbaaGreat
namespace Go.Proofs.YtncgndcepoicbaaGreat
open Go.RowKit
theorem wI64 {x : Int} (h1 : -9223372036854775808 ≤ x) (h2 : x < 9223372036854775808) : IntKind.i64.wrap x = x := by
  rw [IntKind.wrap_i64]; omega
def bV (u : UInt8) : Value := .int .u8 (u.toNat : Int)
def bstr (l : List UInt8) : ByteArray := ⟨l.toArray⟩
theorem bstr_size (l : List UInt8) : (bstr l).size = l.length := by simp [bstr, ByteArray.size]
theorem bstr_get (l : List UInt8) (i : Nat) (h : i < l.length) : (bstr l)[i]'(by rw [bstr_size]; exact h) = l[i] := by
  simp [bstr, ByteArray.getElem_eq_getElem_data]
section
variable {c : Cx} {s : List (Nat × Value)} {L : List (Nat × Obj)} {o : Oper}
theorem Qt_indexB {t : TypeId} [hu : TUnd c.P t .string] {x y : Operand} {l : List UInt8} {k : IntKind} {i : Int} {u : UInt8} (ho : o.op = .index t x y) (hx : ev s x = some (.string (bstr l)) := by exact rfl) (hy : ev s y = some (.int k i) := by exact rfl)
    (h0 : 0 ≤ i := by first | with_reducible assumption | decide | omega) (h1 : l[i.toNat]? = some u := by first | with_reducible assumption | rfl | (simp; done)) : Qt c s L o (bV u) :=
  Qt_of_run (by simp [ho]) (fun ρ hρ w _ => by
    obtain ⟨hlt, he⟩ := List.getElem?_eq_some_iff.1 h1
    have h3 : 0 ≤ i ∧ i < (bstr l).size := ⟨h0, by rw [bstr_size]; omega⟩
    have h2 := run_index_string (P := c.P) w t (bstr l) k i hu.h
    rw [dif_pos h3, bstr_get l _ hlt, he] at h2
    simp only [execOp, ho, hρ x _ hx, hρ y _ hy, Sem.run_bind, h2, Result.andThen]
    rfl)
end
def Vec (sz : Nat) (L : List (Nat × Obj)) (v : Value) (n : Nat) (xs : List Value) : Prop :=
  xs.length = n * sz ∧ ∃ a cap, v = .slice a n cap ∧ n ≤ cap ∧ cap ≤ maxLen ∧ (n = 0 ∨ ∃ (b off : Nat) (cs : Array Value) (E : TypeId) (fr : Nat × Nat) (i : Nat), a = some ⟨b, off, none⟩ ∧ L[i]? = some (b, Obj.cells cs E fr) ∧ ∀ j x, xs[j]? = some x → cs[off + j]? = some x)
theorem Vec.mono {sz : Nat} {L L' : List (Nat × Obj)} {v : Value} {n : Nat} {xs : List Value} (h : Vec sz L v n xs) (hs : ∀ (i : Nat) (p : Nat × Obj), L[i]? = some p → ∃ j : Nat, L'[j]? = some p) : Vec sz L' v n xs := by
  obtain ⟨h1, a, cap, h2, h3, h4, h5⟩ := h
  refine ⟨h1, a, cap, h2, h3, h4, ?_⟩
  rcases h5 with h5 | ⟨b, off, cs, E, fr, i, e1, e2, e3⟩
  · exact .inl h5
  · obtain ⟨j, hj⟩ := hs i _ e2
    exact .inr ⟨b, off, cs, E, fr, j, e1, hj, e3⟩
theorem Vec.cons {sz : Nat} {L : List (Nat × Obj)} {v : Value} {n : Nat} {xs : List Value} (p : Nat × Obj) (h : Vec sz L v n xs) : Vec sz (p :: L) v n xs := h.mono fun i _ hi => ⟨i + 1, hi⟩
theorem Vec.nil (sz : Nat) (L : List (Nat × Obj)) : Vec sz L (.slice none 0 0) 0 [] := ⟨by simp, none, 0, rfl, by omega, by simp [maxLen], .inl rfl⟩
theorem Vec.shrink {sz : Nat} {L : List (Nat × Obj)} {a : Option Addr} {n cap : Nat} {xs : List Value} (h : Vec sz L (.slice a n cap) n xs) {cap' : Nat} (hc : n ≤ cap') (hm : cap' ≤ cap := by omega) : Vec sz L (.slice a n cap') n xs := by
  obtain ⟨h1, a', c', h2, h3, h4, h5⟩ := h
  simp only [Value.slice.injEq] at h2
  obtain ⟨rfl, _, rfl⟩ := h2
  exact ⟨h1, a, cap', rfl, hc, by omega, h5⟩
theorem Vec.cells {sz : Nat} {L : List (Nat × Obj)} {a : Option Addr} {n n' cap : Nat} {xs : List Value} (h : Vec sz L (.slice a n' cap) n xs) {g w : World} (hm : Mem g L w) : (∃ a', a = some a' ∧ ∀ j x, xs[j]? = some x → w.cell? (a'.add j) = some x) ∨ (n = 0 ∧ xs = []) := by
  obtain ⟨h1, a', cap', h2, h3, h4, h5⟩ := h
  simp only [Value.slice.injEq] at h2
  obtain ⟨rfl, rfl, rfl⟩ := h2
  rcases h5 with h5 | ⟨b, off, cs, E, fr, i, e1, e2, e3⟩
  · right
    subst h5
    exact ⟨rfl, List.eq_nil_of_length_eq_zero (by omega)⟩
  · left
    refine ⟨_, e1, fun j x hj => ?_⟩
    rw [Addr.add_mid, cell_of_row w b (off + j) cs E fr (hm.at_ e2)]
    exact e3 j x hj
theorem Vec.first {P : Program} {sz : Nat} {L : List (Nat × Obj)} {a : Option Addr} {n cap : Nat} {xs : List Value} (h : Vec sz L (.slice a n cap) n xs) {g w : World} (hm : Mem g L w) (cap' : Nat) : (Builtin.firstCells sz n (.slice a n cap')).run P w = .ok xs.toArray w := by
  have hl := h.1
  rcases h.cells hm with ⟨a', rfl, h2⟩ | ⟨rfl, rfl⟩
  · exact run_firstCells_some w sz n a' n cap' xs hl h2
  · cases a with
    | none => exact run_firstCells_none w sz 0 0 cap'
    | some a => exact run_firstCells_some w sz 0 a 0 cap' [] (by simp) (fun j x hj => by simp at hj)
section
variable {c : Cx} {s : List (Nat × Value)} {L : List (Nat × Obj)} {o : Oper}
theorem Qt_slLHM {t E n : Nat} [hu : TUnd c.P t (.slice E)] [hs : TSize c.P E n] {x hi mx : Operand} {a : Option Addr} {len cap : Nat} {k k' : IntKind} {h m : Int} (ho : o.op = .slice t x none (some hi) (some mx)) (hx : ev s x = some (.slice a len cap) := by exact rfl) (hh : ev s hi = some (.int k h) := by exact rfl) (hm : ev s mx = some (.int k' m) := by exact rfl)
    (h0 : 0 ≤ h := by first | with_reducible assumption | decide | omega) (h1 : h ≤ m := by first | with_reducible assumption | exact Int.le_refl _ | omega) (h2 : m ≤ cap := by first | with_reducible assumption | omega) : Qt c s L o (.slice a h.toNat m.toNat) :=
  Qt_of_run (by simp [ho]) (fun ρ hρ w _ => by
    have hut : c.P.underlying t = some (.slice (c.P.elem t)) := by rw [elem_of hu.h]; exact hu.h
    have h3 := run_slice_hm (P := c.P) w t a len cap hut k k' h m h0 h1 h2
    rw [elem_of hu.h, hs.h] at h3
    have h4 := run_sliceAt_slice (P := c.P) w t (.slice a len cap) none (some (.int k h)) (some (.int k' m)) hut
    have h5 : sliced a 0 h.toNat m.toNat n = .slice a h.toNat m.toNat := by
      unfold sliced
      cases a <;> simp [Addr.add]
    simp only [Result.andThen, h5] at h3
    simp [execOp, ho, hρ x _ hx, hρ hi _ hh, hρ mx _ hm, h4, h3])
theorem Qt_slTo {t E n : Nat} [hu : TUnd c.P t (.slice E)] [hs : TSize c.P E n] {x hi : Operand} {a : Option Addr} {len cap : Nat} {k : IntKind} {h : Int} (ho : o.op = .slice t x none (some hi) none) (hx : ev s x = some (.slice a len cap) := by exact rfl) (hh : ev s hi = some (.int k h) := by exact rfl)
    (h0 : 0 ≤ h := by first | with_reducible assumption | decide | omega) (h2 : h ≤ cap := by first | with_reducible assumption | omega) : Qt c s L o (.slice a h.toNat cap) :=
  Qt_of_run (by simp [ho]) (fun ρ hρ w _ => by
    have hut : c.P.underlying t = some (.slice (c.P.elem t)) := by rw [elem_of hu.h]; exact hu.h
    have h3 := run_slice_h (P := c.P) w t a len cap hut k h h0 h2
    rw [elem_of hu.h, hs.h] at h3
    have h4 := run_sliceAt_slice (P := c.P) w t (.slice a len cap) none (some (.int k h)) none hut
    have h5 : sliced a 0 h.toNat cap n = .slice a h.toNat cap := by
      unfold sliced
      cases a <;> simp [Addr.add]
    simp only [Result.andThen, h5] at h3
    simp [execOp, ho, hρ x _ hx, hρ hi _ hh, h4, h3])
theorem Qt_min {t t2 : TypeId} {x y : Operand} {k : IntKind} {a b : Int} (ho : o.op = .call { callee := .builtin .min, args := #[x, y], argTypes := #[t, t2] }) (hx : ev s x = some (.int k a) := by exact rfl) (hy : ev s y = some (.int k b) := by exact rfl) : Qt c s L o (.int k (if b < a then b else a)) :=
  Qt_of_run (by simp [ho]) (fun ρ hρ w _ => by
    simp [execOp, ho, resolve, invoke, builtin, hρ x _ hx, hρ y _ hy, Builtin.min_, Builtin.min2])
theorem Qt_max {t t2 : TypeId} {x y : Operand} {k : IntKind} {a b : Int} (ho : o.op = .call { callee := .builtin .max, args := #[x, y], argTypes := #[t, t2] }) (hx : ev s x = some (.int k a) := by exact rfl) (hy : ev s y = some (.int k b) := by exact rfl) : Qt c s L o (.int k (if b > a then b else a)) :=
  Qt_of_run (by simp [ho]) (fun ρ hρ w _ => by
    simp [execOp, ho, resolve, invoke, builtin, hρ x _ hx, hρ y _ hy, Builtin.max_, Builtin.max2])
end
structure Own (sz : Nat) (cur : Array Value) (off cap n : Nat) (xs : List Value) : Prop where
  len : xs.length = n * sz
  le : n ≤ cap
  max : cap ≤ maxLen
  fit : off + cap * sz ≤ cur.size
  at_ : ∀ j x, xs[j]? = some x → cur[off + j]? = some x
theorem Own.vec {sz : Nat} {cur : Array Value} {off cap n : Nat} {xs : List Value} (h : Own sz cur off cap n xs) {L : List (Nat × Obj)} {b E : Nat} {fr : Nat × Nat} (i : Nat) (hi : L[i]? = some (b, .cells cur E fr)) : Vec sz L (.slice (some ⟨b, off, none⟩) n cap) n xs :=
  ⟨h.len, _, _, rfl, h.le, h.max, .inr ⟨b, off, cur, E, fr, i, rfl, hi, h.at_⟩⟩
theorem Own.extract {sz : Nat} {cur : Array Value} {off cap n : Nat} {xs : List Value} (h : Own sz cur off cap n xs) : cur.extract off (off + n * sz) = xs.toArray := by
  have hl := h.len
  have hf := h.fit
  have hle : n * sz ≤ cap * sz := Nat.mul_le_mul_right _ h.le
  apply Array.ext_getElem?
  intro j
  rw [Array.getElem?_extract]
  by_cases hj : j < n * sz
  · rw [if_pos (by omega)]
    have := h.at_ j (xs[j]'(by omega)) (List.getElem?_eq_getElem (by omega))
    rw [this]; simp [hl, hj]
  · rw [if_neg (by omega)]; simp; omega
theorem Own.of_extract {sz : Nat} {cur : Array Value} {off cap n : Nat} {xs : List Value} (hl : xs.length = n * sz) (hle : n ≤ cap) (hm : cap ≤ maxLen) (hf : off + cap * sz ≤ cur.size) (he : cur.extract off (off + n * sz) = xs.toArray) : Own sz cur off cap n xs := by
  refine ⟨hl, hle, hm, hf, fun j x hx => ?_⟩
  have hj := (List.getElem?_eq_some_iff.1 hx).1
  have hle' : n * sz ≤ cap * sz := Nat.mul_le_mul_right _ hle
  have h1 : (cur.extract off (off + n * sz))[j]? = some x := by rw [he]; simpa using hx
  rw [Array.getElem?_extract, if_pos (by omega)] at h1
  exact h1
def SrcL (c : Cx) (L : List (Nat × Obj)) (sz : Nat) (t2 : TypeId) (y : Value) (m : Nat) (news : List Value) : Prop := ∀ w, Mem c.g L w → Src c.P sz t2 y m news w
theorem srcVec {c : Cx} {L : List (Nat × Obj)} {sz t2 e m : Nat} {y : Value} {news : List Value} [hu : TUnd c.P t2 (.slice e)] (h : Vec sz L y m news) (h1 : ∀ u ∈ news, u.oneCell' = true) : SrcL c L sz t2 y m news := fun w hm => by
  have h' := h
  obtain ⟨hl, a, cap, rfl, _⟩ := h
  rcases Vec.cells h' hm with ⟨a', rfl, h2⟩ | ⟨rfl, rfl⟩
  · exact Src.ofSlice w hu.h a' m cap news hl h2 h1
  · cases a with
    | none => exact Src.ofNil w hu.h cap
    | some a => exact Src.ofSlice w hu.h a 0 cap [] (by simp) (fun j u hj => by simp at hj) (fun u hu => by cases hu)
set_option maxHeartbeats 4000000 in
theorem OW_append_new {c : Cx} {o : Oper} {Kn : St → Prop} {K : Exit → St → Prop} {s : List (Nat × Value)} {D : List Deferred} {L : List (Nat × Obj)} {t t2 E size by_ d : Nat} {z : Array Value} {x y : Operand} [hu : TUnd c.P t (.slice E)] [hrow : TRow c.P E z size by_]
    (ho : o.op = .call { callee := .builtin .append, args := #[x, y], argTypes := #[t, t2] }) (hdst : o.dst = some d) {a : Option Addr} {n cap m : Nat} (hx : ev s x = some (.slice a n cap)) {y' : Value} (hy : ev s y = some y') (hd : Nat.blt d c.N = true) {olds news : List Value} (hv : Vec size L (.slice a n cap) n olds)
    (hs : SrcL c L size t2 y' m news) (hm : cap < n + m) (hmax : n + m ≤ maxLen) (hby : (n + m) * by_ ≤ 140737488355328)
    (hk : ∀ b cap' cur, Own size cur 0 cap' (n + m) (olds ++ news) → Kn ⟨(d, .slice (some ⟨b, 0, none⟩) (n + m) cap') :: s, D, (b, .cells cur E (0, 0)) :: L⟩) : OW c o Kn K ⟨s, D, L⟩ := fun ac w ha => by
  refine ⟨fun _ _ => trivial, ?_⟩
  obtain ⟨ii, zz, r1, r2, r3, r4, r5, r6⟩ := hrow.h
  have hsr := hs w ha.mem
  have hlen := hsr.newsLen
  have hold := hv.first (P := c.P) ha.mem.drew cap
  have hle : n ≤ cap := by obtain ⟨_, a', c', e, h1, _⟩ := hv; cases e; exact h1
  have hr := run_append_grow_src (P := c.P) w t t2 o.type E ii zz hu.h r1 r2 a n cap olds (by rw [r4]; exact hold) y' m news (by rw [r4]; exact hsr) hm (by simp only [maxLen] at hmax; omega) (growslice_fits (by omega) (by rw [r5]; exact hby))
  rw [r3] at hr
  obtain ⟨cap', hcap'⟩ : ∃ q, grownCap w (n + m) cap E = q := ⟨_, rfl⟩
  have hge := grownCap_ge w (n + m) cap E
  have hcm := grownCap_le_maxLen w (n + m) cap E hmax
  rw [hcap'] at hr hge hcm
  have hr' : (execOp ac.eval o).run c.P w = .ok (.value (.slice (some ⟨w.heap.size, 0, none⟩) (n + m) cap')) (w.drew.alloc (.cells ((olds ++ news).toArray ++ Builtin.zeroCells z (cap' - (n + m))) E)) := by
    simp [execOp, ho, resolve, invoke, builtin, ha.ev hx, ha.ev hy, hr]
  rw [Oper.semAt_eq _ _ _ (by rw [ho]; intro cc h; cases h), hr']
  have hol : (olds ++ news).length = (n + m) * size := by rw [List.length_append, hv.1, hlen, Nat.add_mul]
  refine ⟨_, ?_, hk w.heap.size cap' ((olds ++ news).toArray ++ Builtin.zeroCells z (cap' - (n + m))) ⟨hol, hge, hcm, ?_, fun j u hu => ?_⟩⟩
  · rw [hdst]
    exact (ha.mem' ((ha.mem.drew).alloc _)).put (d := some d) hd _
  · rw [Array.size_append, List.size_toArray, hol, size_zeroCells, r6, ← Nat.add_mul]
    have : n + m + (cap' - (n + m)) = cap' := by omega
    rw [this]; omega
  · have hj := (List.getElem?_eq_some_iff.1 hu).1
    rw [Nat.zero_add, Array.getElem?_append_left (by simpa using hj)]
    simpa using hu
theorem OW_append_own {c : Cx} {o : Oper} {Kn : St → Prop} {K : Exit → St → Prop} {s : List (Nat × Value)} {D : List Deferred} {L : List (Nat × Obj)} {t t2 E size by_ d : Nat} {z : Array Value} {x y : Operand} [hu : TUnd c.P t (.slice E)] [hrow : TRow c.P E z size by_]
    (ho : o.op = .call { callee := .builtin .append, args := #[x, y], argTypes := #[t, t2] }) (hdst : o.dst = some d) {g off n cap m : Nat} (hx : ev s x = some (.slice (some ⟨g, off, none⟩) n cap)) {y' : Value} (hy : ev s y = some y') (hd : Nat.blt d c.N = true) {cur : Array Value} {xs news : List Value} (i : Nat) (hi : L[i]? = some (g, .cells cur E (0, 0))) (hv : Own size cur off cap n xs)
    (hs : SrcL c L size t2 y' m news) (hmax : n + m ≤ maxLen) (hby : (n + m) * by_ ≤ 140737488355328)
    (hk : ∀ b off' cap' cur', Own size cur' off' cap' (n + m) (xs ++ news) → Kn ⟨(d, .slice (some ⟨b, off', none⟩) (n + m) cap') :: s, D, L.set i (b, .cells cur' E (0, 0))⟩) : OW c o Kn K ⟨s, D, L⟩ := by
  refine nodup_wlog fun hnd => ?_
  refine OW_append_src (c := c) ho hdst hd hx i ⟨hi, hv.le, hv.max, hv.fit⟩ (m := m) (y' := y') (news := news) hy (fun a w ha => hs w ha.mem) hmax hby fun g' off' cap' cur' L' h1 h2 h3 => ?_
  have h4 := setL_eq h1
  subst h4
  refine hk g' off' cap' cur' (Own.of_extract ?_ h2.le h2.max h2.fit ?_)
  · have : (cur'.extract off' (off' + (n + m) * size)).size = (n + m) * size := by
      have := h2.fit
      have h5 : (n + m) * size ≤ cap' * size := Nat.mul_le_mul_right _ h2.le
      simp; omega
    rw [h3, hv.extract] at this
    simpa using this
  · rw [h3, hv.extract]; simp
section
variable {c : Cx} {ops : Array Oper}
theorem WR_skN {K : Exit → St → Prop} {Ls : List (Nat × Obj)} {m i j dg : Nat} {b : Bool} {og : Oper} {p : Plan} {o : Oper} {s : List (Nat × Value)} {D : List Deferred} {L : List (Nat × Obj)} {d : Nat} (ho : ops[i]? = some o) (h : WR c ops K Ls m p ⟨(d, undef) :: s, D, L⟩) (hg : o.guard = some (j, true) := by exact rfl) (hj : ops[j]? = some og := by exact rfl) (hdg : og.dst = some dg := by exact rfl) (hb : look s dg = some (.bool b) := by exact rfl) (he : b = false := by first | with_reducible assumption | with_reducible rfl | decide)
    (hdst : o.dst = some d := by exact rfl) (hd : Nat.blt d c.N = true := by exact rfl) (hL : ∀ q ∈ Ls, q ∈ L := by first | exact fun _ h => h | exact fun _ h => List.Sublist.subset (by repeat (first | exact .refl _ | exact List.nil_sublist _ | exact List.sublist_append_right _ _ | apply List.Sublist.cons_cons | apply List.Sublist.cons)) h) : WR c ops K Ls m (.must i p) ⟨s, D, L⟩ :=
  WR_opN (σ := ⟨s, D, L⟩) ho hg hj hdg hb (by rw [he]; rfl) (by rw [hdst]; exact hd) hL (by rw [hdst]; exact h)
end
theorem WC_wk {c : Cx} {code : Code} {K : Exit → St → Prop} {s0 : List (Nat × Value)} {D : List Deferred} {L : List (Nat × Obj)} (s : List (Nat × Value)) (hs : SubS s s0) (h : WC c code K ⟨s, D, L⟩) : WC c code K ⟨s0, D, L⟩ := WC_weaken (σ := ⟨s0, D, L⟩) s hs h
theorem arr_get {α : Type} {cs : Array α} {i : Nat} {v : α} (h : cs.toList[i]? = some v) : cs[i]? = some v := by simpa using h
theorem Qt_ld1B {c : Cx} {s : List (Nat × Value)} {L : List (Nat × Obj)} {o : Oper} {t b off : Nat} [TAgg c.P t false] {x : Operand} {cs : Array Value} {E : TypeId} {fr : Nat × Nat} {v : Value} (ho : o.op = .load t x) (hx : ev s x = some (.pointer (some ⟨b, off, none⟩)) := by exact rfl) (hi : ∃ i : Nat, L[i]? = some (b, .cells cs E fr) := by first | exact ⟨0, rfl⟩ | exact ⟨1, rfl⟩ | exact ⟨2, rfl⟩ | exact ⟨3, rfl⟩ | exact ⟨4, rfl⟩ | exact ⟨5, rfl⟩ | exact ⟨6, rfl⟩ | exact ⟨7, rfl⟩ | exact ⟨8, rfl⟩ | exact ⟨9, rfl⟩ | exact ⟨10, rfl⟩ | exact ⟨11, rfl⟩ | exact ⟨12, rfl⟩ | exact ⟨13, rfl⟩ | exact ⟨_, by with_reducible assumption⟩) (hv : cs[off]? = some v := by first | with_reducible assumption | exact arr_get rfl | rfl | assumption) : Qt c s L o v :=
  let ⟨i, h⟩ := hi; Qt_load1 ho hx i h hv
theorem Qt_buildB {c : Cx} {s : List (Nat × Value)} {L : List (Nat × Obj)} {o : Oper} {t : TypeId} {z : Array Value} {pl : List (Nat × Nat)} [hb : TBuild c.P t z pl] {parts : Array (Nat × Operand)} {vs : List (Nat × Value)} {cs : Array Value} (ho : o.op = .build t parts) (hx : evp s parts.toList = some vs := by exact rfl) (hf : Filled pl z vs cs := by repeat (first | exact rfl | refine ⟨_, _, rfl, (by first | with_reducible assumption | rfl | assumption), (by first | exact Nat.le_of_ble_eq_true rfl | omega), ?_⟩)) : Qt c s L o (.agg cs) :=
  Qt_build ho hx hf
end Go.Proofs.YtncgndcepoicbaaGreat
namespace Go.Proofs.YtncgndcepoicbaaGreat
open Go.RowKit
section
variable {c : Cx} {s : List (Nat × Value)} {L : List (Nat × Obj)} {o : Oper}
theorem Qt_eql_ifN {t t' : TypeId} {ms : Array (String × TypeId)} [hu : TUnd c.P t (.interface ms)] {x : Operand} {cv : Value} (ho : o.op = .binOp .eql t x (.const cv) t') (hx : ev s x = some .nilIface := by exact rfl) (hy : cv = .nilIface := by exact rfl) : Qt c s L o (.bool true) :=
  Qt_of_run (by simp [ho]) (fun ρ hρ w _ => by
    subst hy
    obtain ⟨h1, h2⟩ := run_equalIn_iface (P := c.P) w 9999 t hu.h
    have e : (binOp .eql t .nilIface .nilIface).run c.P w = .ok (.bool true) w := by simp only [binOp]; simp [Op.equal, Op.maxDepth, h1]
    simp [execOp, ho, hρ x _ hx, hρ (.const .nilIface) _ rfl, eqGuard, e])
theorem Qt_eql_ifS {t t' u : TypeId} {ms : Array (String × TypeId)} [hu : TUnd c.P t (.interface ms)] {x : Operand} {cv v : Value} (ho : o.op = .binOp .eql t x (.const cv) t') (hx : ev s x = some (.iface u v) := by exact rfl) (hy : cv = .nilIface := by exact rfl) : Qt c s L o (.bool false) :=
  Qt_of_run (by simp [ho]) (fun ρ hρ w _ => by
    subst hy
    obtain ⟨h1, h2⟩ := run_equalIn_iface (P := c.P) w 9999 t hu.h
    have e : (binOp .eql t (.iface u v) .nilIface).run c.P w = .ok (.bool false) w := by simp only [binOp]; simp [Op.equal, Op.maxDepth, (h2 _ _).1]
    simp [execOp, ho, hρ x _ hx, hρ (.const .nilIface) _ rfl, eqGuard, e])
theorem Qt_makeInterface {t : TypeId} {d : TypeDesc} [hu : TUnd c.P t d] {x : Operand} {v : Value} (ho : o.op = .makeInterface t x) (hx : ev s x = some v := by exact rfl) (hd : ∀ ms, d ≠ .interface ms := by intro ms h; cases h) : Qt c s L o (.iface t v) :=
  Qt_of_run (by simp [ho]) (fun ρ hρ w _ => by
    simp only [execOp, ho, hρ x _ hx, Instr.makeInterface, Sem.run_bind, run_underlying hu.h]
    cases d <;> first | rfl | exact absurd rfl (hd _))
theorem Qt_typeAssert {t u : TypeId} {d : TypeDesc} [hu : TUnd c.P t d] {x : Operand} {v : Value} (ho : o.op = .typeAssert x u t true) (hx : ev s x = some (.iface t v) := by exact rfl) (hd : ∀ ms, d ≠ .interface ms := by intro ms h; cases h) : Qt c s L o (.tuple #[v, .bool true]) :=
  Qt_of_run (by simp [ho]) (fun ρ hρ w _ => by
    simp only [execOp, ho, hρ x _ hx, Instr.typeAssert, Sem.run_bind, run_underlying hu.h]
    cases d <;> first | exact absurd rfl (hd _) | simp)
end
theorem Fn_enterD {P : Program} {f : FuncId} {fn : Func} {code : Code} {args : List Value} {L : List (Nat × Obj)} {R : Value → List (Nat × Obj) → Prop} {N : Nat} (hf : P.funcs[f]? = some fn) (hb : fn.body = some code) (hN : fn.ntmps = N) (hl : Nat.ble args.length N = true)
    (h : ∀ g, WC ⟨P, g, N, 0, none⟩ code (postL ⟨P, g, N, 0, none⟩ fn R (fun _ _ => False)) ⟨initS 0 args, [], L⟩) : Fn P f args L R := fun g w hm =>
  (enterL hf hb hN hl h g w hm).mono fun _ _ hE => by
    rcases hE with ⟨v, L', h1, h2, h3⟩ | ⟨v, L', _, _, h3⟩
    · exact ⟨v, L', h1, h2, h3⟩
    · exact h3.elim
section
variable {c : Cx} {o : Oper} {Kn : St → Prop} {K : Exit → St → Prop}
theorem OW_pan {s : List (Nat × Value)} {D : List Deferred} {L : List (Nat × Obj)} {f : FuncId} {args : Array Operand} {tys : Array TypeId} [hf : FCall c.P f] {vs : List Value} {R : Value → List (Nat × Obj) → Prop}
    (ho : o.op = .call { callee := .value (.func f), args := args, argTypes := tys }) (hF : FnP c.P f vs L R) (hk : ∀ v L', R v L' → K (.panic (pan v)) ⟨[], D, L'⟩) (ha : evs s args.toList = some vs := by exact rfl) : OW c o Kn K ⟨s, D, L⟩ :=
  OW_callvP (σ := ⟨s, D, L⟩) (x := .func f) (A := #[]) (B := #[]) ho rfl ha (by simpa using hF) hk
def pK (ops : Array Oper) (s : List (Nat × Value)) (K : Exit → St → Prop) : Exit → St → Prop
  | .panic ch, σ => K (.panic ch) ⟨keepS ops s, σ.D, σ.L⟩
  | e, σ => K e σ
theorem WC_regP {id : Nat} {l : List Oper} {s : List (Nat × Value)} {D : List Deferred} {L : List (Nat × Obj)} (h : WL c l.toArray l (pK l.toArray s K) ⟨s, D, L⟩) : WC c (.region id l.toArray false) K ⟨s, D, L⟩ :=
  WC_regionP (σ := ⟨s, D, L⟩) (fun e σ' he h => by cases e <;> first | exact h | exact absurd rfl (he _)) (fun ch D L h => h) h
theorem WC_drP {ops : Array Oper} {s : List (Nat × Value)} {D : List Deferred} {L : List (Nat × Obj)} {id : Nat} (m : Nat) (p : Plan) (hm : c.P.follows .mixedOrders = true)
    (hok : (Region.noSelect ops && lateOk ops m && planOk ops m p ops.size (Array.replicate ops.size false)) = true) (h : WR c ops (pK ops s K) L m p ⟨s, D, L⟩) : WC c (.region id ops true) K ⟨s, D, L⟩ := fun a w ha => by
  simp only [Bool.and_eq_true] at hok
  have ha' : Holds c.g c.N ⟨s, D, L⟩ a { w with drawn := w.drawn + 1 } := ha.mem' ha.mem.drew
  exact Go.wpIn_mono (wpIn_region_any hm (wpAnyIn_keepS _ _ _ _ (fun _ _ => rfl) (AnyH.any _ _ _ _ (WR_any hok.1.1 hok.1.2 p L ha.mem.nodup _ _ ⟨s, D, L⟩ hok.2 h a _ ha' (fun _ => ha'.mem))))) fun _ _ _ hl =>
    lift_of_panI ha (fun e σ' he h => by cases e <;> first | exact h | exact absurd rfl (he _)) (fun ch D L h => h) hl
theorem OW_def {s : List (Nat × Value)} {D : List Deferred} {L : List (Nat × Obj)} {f : FuncId} {args : Array Operand} {tys : Array TypeId} {vs : List Value} (ho : o.op = .defer { callee := .value (.func f), args := args, argTypes := tys }) (hr : c.r = none := by exact rfl) (hdst : o.dst = none := by exact rfl) (ha : evs s args.toList = some vs := by exact rfl)
    (hk : Kn ⟨s, { target := .fn (.func f) #[], args := vs.toArray } :: D, L⟩) : OW c o Kn K ⟨s, D, L⟩ := by
  refine OW_defer (σ := ⟨s, D, L⟩) (x := .func f) (A := #[]) (B := #[]) hr ho rfl ha (by rw [hdst]; rfl) ?_
  rw [hdst]
  simpa [St.put] using hk
end
theorem LeavS_one {c : Cx} {fn : Func} {s : List (Nat × Value)} {Rr Rp : Value → List (Nat × Obj) → Prop} {f : FuncId} {A : Array Value} {u : FrameMode} {L : List (Nat × Obj)} [hf : FCall c.P f] (hu : u ≠ .run) {Q : FrameMode → List (Nat × Obj) → Prop} (hD : FnD c.P f A.toList L u Q) (hk : ∀ u' L', Q u' L' → LeavS c fn s Rr Rp [] (settle u') L') : LeavS c fn s Rr Rp [{ target := .fn (.func f) #[], args := A }] u L :=
  ⟨hu, .inr ⟨f, A, #[], rfl, hf, fun g w n hm => by
    have h1 := hD g w n hm
    have e : A.toList ++ (#[] : Array Value).toList = A.toList := by simp
    rw [e]
    exact h1.mono fun _ _ _ ⟨v, L', e1, e2, e3⟩ => ⟨v, L', e1, e2, hk _ _ e3⟩⟩⟩
def meetQ (Q : St → Prop) (σ : St) : Prop := ∃ σ', Q σ' ∧ SubS σ'.s σ.s ∧ σ'.D = σ.D ∧ σ'.L.Sublist σ.L
theorem meet_next {c : Cx} {Q : St → Prop} {z : Code} {K : Exit → St → Prop} (hB : ∀ σ, Q σ → WC c z K σ) (e : Exit) (σ : St) (h : thenK (meetQ Q) K e σ) : thenK (WC c z K) K e σ := by
  cases e with
  | normal =>
    obtain ⟨σ', hQ, hs, hD, hL⟩ := h
    exact WC_lessen hs hD hL (hB σ' hQ)
  | _ => exact h
theorem WC_meet {c : Cx} {x z : Code} {K : Exit → St → Prop} {σ : St} (Q : St → Prop) (hA : WC c x (thenK (meetQ Q) K) σ) (hB : ∀ σ, Q σ → WC c z K σ) : WC c x (thenK (WC c z K) K) σ :=
  WC_mono hA (meet_next hB)
theorem WC_meet2 {c : Cx} {x y z : Code} {K : Exit → St → Prop} {σ : St} (Q : St → Prop) (hA : WC c x (thenK (WC c y (thenK (meetQ Q) K)) (thenK (meetQ Q) K)) σ) (hB : ∀ σ, Q σ → WC c z K σ) : WC c x (thenK (WC c y (thenK (WC c z K) K)) (thenK (WC c z K) K)) σ :=
  WC_mono hA fun e σ h => by
    cases e with
    | normal => exact WC_mono h (meet_next hB)
    | _ => exact h
end Go.Proofs.YtncgndcepoicbaaGreat
namespace Go.Proofs.YtncgndcepoicbaaGreat
open Go.RowKit
def Buf (E sz : Nat) (v : Value) (T : List (Nat × Obj)) (n : Nat) (xs : List Value) : Prop :=
  (xs = [] ∧ n = 0 ∧ v = .slice none 0 0 ∧ T = []) ∨ ∃ (g off cap : Nat) (cur : Array Value), v = .slice (some ⟨g, off, none⟩) n cap ∧ T = [(g, .cells cur E (0, 0))] ∧ Own sz cur off cap n xs
theorem Buf.nil (E sz : Nat) : Buf E sz (.slice none 0 0) [] 0 [] := .inl ⟨rfl, rfl, rfl, rfl⟩
theorem Buf.vec {E sz : Nat} {v : Value} {T : List (Nat × Obj)} {n : Nat} {xs : List Value} (h : Buf E sz v T n xs) (A B : List (Nat × Obj)) : Vec sz (A ++ (T ++ B)) v n xs := by
  rcases h with ⟨rfl, rfl, rfl, rfl⟩ | ⟨g, off, cap, cur, rfl, rfl, h⟩
  · exact Vec.nil sz _
  · exact h.vec (E := E) (fr := (0, 0)) A.length (by simp)
theorem Buf.vec0 {E sz : Nat} {v : Value} {T : List (Nat × Obj)} {n : Nat} {xs : List Value} (h : Buf E sz v T n xs) (B : List (Nat × Obj)) : Vec sz (T ++ B) v n xs := h.vec [] B
theorem Buf.len {E sz : Nat} {v : Value} {T : List (Nat × Obj)} {n : Nat} {xs : List Value} (h : Buf E sz v T n xs) : xs.length = n * sz := by
  rcases h with ⟨rfl, rfl, _, _⟩ | ⟨g, off, cap, cur, _, _, h⟩
  · simp
  · exact h.len
theorem Buf.val {E sz : Nat} {v : Value} {T : List (Nat × Obj)} {n : Nat} {xs : List Value} (h : Buf E sz v T n xs) : ∃ a cap, v = .slice a n cap ∧ n ≤ cap ∧ cap ≤ maxLen := by
  rcases h with ⟨rfl, rfl, rfl, _⟩ | ⟨g, off, cap, cur, rfl, _, h⟩
  · exact ⟨_, _, rfl, Nat.le_refl _, by simp [maxLen]⟩
  · exact ⟨_, _, rfl, h.le, h.max⟩
theorem OW.permL {c : Cx} {o : Oper} {Kn : St → Prop} {K : Exit → St → Prop} {σ : St} (h : OW c o (fun σ' => ∃ L2 : List (Nat × Obj), L2.Perm σ'.L ∧ Kn ⟨σ'.s, σ'.D, L2⟩) K σ) : OW c o Kn K σ := fun a w ha =>
  Oper.wpIn_mono (fun _ _ ⟨_, h1, _, h2, h3⟩ => ⟨_, h1.mem' (h1.mem.perm h2), h3⟩) (h a w ha)
theorem OW_append_buf {c : Cx} {o : Oper} {Kn : St → Prop} {K : Exit → St → Prop} {s : List (Nat × Value)} {D : List Deferred} {A T B : List (Nat × Obj)} {t t2 E size by_ d : Nat} {z : Array Value} {x y : Operand} [hu : TUnd c.P t (.slice E)] [hrow : TRow c.P E z size by_]
    (ho : o.op = .call { callee := .builtin .append, args := #[x, y], argTypes := #[t, t2] }) (hdst : o.dst = some d) {v y' : Value} (hx : ev s x = some v) (hy : ev s y = some y') (hd : Nat.blt d c.N = true) {n m : Nat} {xs news : List Value} (hv : Buf E size v T n xs)
    (hs : SrcL c (A ++ (T ++ B)) size t2 y' m news) (hm : 0 < m) (hmax : n + m ≤ maxLen) (hby : (n + m) * by_ ≤ 140737488355328)
    (hk : ∀ v' T', Buf E size v' T' (n + m) (xs ++ news) → Kn ⟨(d, v') :: s, D, A ++ (T' ++ B)⟩) : OW c o Kn K ⟨s, D, A ++ (T ++ B)⟩ := by
  refine OW.permL ?_
  rcases hv with ⟨rfl, rfl, rfl, rfl⟩ | ⟨g, off, cap, cur, rfl, rfl, h⟩
  · refine OW_append_new ho hdst hx hy hd (Vec.nil size _) hs (by omega) hmax hby fun b cap' cur' h' => ?_
    refine ⟨A ++ ([(b, .cells cur' E (0, 0))] ++ B), ?_, hk _ _ (.inr ⟨b, 0, cap', cur', rfl, rfl, h'⟩)⟩
    simp only [List.nil_append, List.singleton_append]
    exact List.perm_middle
  · have hi : (A ++ ([(g, Obj.cells cur E (0, 0))] ++ B))[A.length]? = some (g, .cells cur E (0, 0)) := by simp
    refine OW_append_own ho hdst hx hy hd A.length hi h hs hmax hby fun b off' cap' cur' h' => ?_
    refine ⟨_, .refl _, ?_⟩
    have e : (A ++ ([(g, Obj.cells cur E (0, 0))] ++ B)).set A.length (b, .cells cur' E (0, 0)) = A ++ ([(b, .cells cur' E (0, 0))] ++ B) := by simp
    simp only [e]
    exact hk _ _ (.inr ⟨b, off', cap', cur', rfl, rfl, h'⟩)
theorem src1 {c : Cx} {L : List (Nat × Obj)} {t2 e b E : Nat} {u : Value} [hu : TUnd c.P t2 (.slice e)] (i : Nat) (hi : L[i]? = some (b, .cells #[u] E (0, 0))) (h1 : u.oneCell' = true := by rfl) : SrcL c L 1 t2 (.slice (some ⟨b, 0, none⟩) 1 1) 1 [u] :=
  srcVec ⟨rfl, _, _, rfl, Nat.le_refl _, by decide, .inr ⟨_, _, _, _, _, i, rfl, hi, fun j x hx => by
    cases j with
    | zero => simpa using hx
    | succ j => simp at hx⟩⟩ (by intro v hv; simp at hv; subst hv; exact h1)
theorem WC_dropL {c : Cx} {code : Code} {K : Exit → St → Prop} {s : List (Nat × Value)} {D : List Deferred} {L : List (Nat × Obj)} (L' : List (Nat × Obj)) (hs : L'.Sublist L) (h : WC c code K ⟨s, D, L'⟩) : WC c code K ⟨s, D, L⟩ := WC_drop (σ := ⟨s, D, L⟩) hs h
end Go.Proofs.YtncgndcepoicbaaGreat
namespace Go.Proofs.YtncgndcepoicbaaGreat
open Go.RowKit
theorem QW_a {c : Cx} {s : List (Nat × Value)} {L : List (Nat × Obj)} {o : Oper} {κ : Value → Prop} {v : Value} (hk : κ v) (h : Qt c s L o v := by first
    | exact Qt_move rfl | exact Qt_assign rfl | exact Qt_nilCheck rfl | exact Qt_fieldAddr0 rfl | exact Qt_fieldAddr rfl | exact Qt_ld1B rfl | exact Qt_extract rfl
    | exact Qt_lenB rfl | exact Qt_lenSl rfl | exact Qt_eqlStr rfl | exact Qt_neqStr rfl | exact Qt_geqStr rfl | exact Qt_cat rfl | exact Qt_bin rfl | exact Qt_pick_true rfl | exact Qt_pick_false rfl | exact Qt_not rfl
    | exact Qt_indexArr0 rfl | exact Qt_indexSl0 rfl | exact Qt_indexArr rfl | exact Qt_indexSl rfl | exact Qt_convInt rfl | exact Qt_ldA rfl | exact Qt_ldN rfl
    | exact Qt_eql_nilS rfl | exact Qt_eql_nilN rfl | exact Qt_neq_nilS rfl | exact Qt_neq_nilN rfl | exact Qt_eql_ifN rfl | exact Qt_eql_ifS rfl | exact Qt_neq_ifN rfl | exact Qt_neq_ifS rfl | exact Qt_eql_bool rfl | exact Qt_neq_bool rfl
    | exact Qt_rem rfl | exact Qt_quo rfl | exact Qt_shl rfl | exact Qt_shr rfl | exact Qt_and rfl | exact Qt_or rfl | exact Qt_xor rfl | exact Qt_neg rfl | exact Qt_min rfl | exact Qt_max rfl
    | exact Qt_cutB rfl | exact Qt_cutToB rfl | exact Qt_cutFromB rfl | exact Qt_indexB rfl | exact Qt_arrFrom rfl | exact Qt_sliceL rfl | exact Qt_slTo rfl | exact Qt_slLHM rfl
    | exact Qt_str1 rfl | exact Qt_str rfl (hv := own_by0 (by with_reducible assumption)) | exact Qt_str rfl | exact Qt_buildB rfl | exact Qt_makeFunc rfl | exact Qt_makeInterface rfl | exact Qt_typeAssert rfl | exact Qt_nilCheck_fn rfl) : QW c s L o κ := ⟨v, h, hk⟩
theorem sub_mem {A B : List (Nat × Obj)} (h : A.Sublist B) : ∀ q ∈ A, q ∈ B := fun _ hq => h.subset hq
theorem RQ {P G : Prop} (h : G) (s : G → P := by first | exact fun h => WL_Q (QW_a h) | exact fun h => WL_Y (QW_a h)) : P := s h
theorem OE {P G : Prop} (h : G) (s : G → P := by first | exact fun h => OW_alloc rfl (hk := h) | exact fun h => OW_box rfl (hk := h) | exact fun h => OW_st1 rfl h | exact fun h => OW_stA rfl h | exact fun h => OW_stN rfl h | exact fun h => OW_build0 rfl (hk := h) | exact fun h => OW_build1 rfl (hk := h)) : P := s h
theorem RE {P G : Prop} (h : G) (s : G → P := by first | exact fun h => WL_op rfl (OE h) | exact fun h => WL_yes (h := OE h)) : P := s h
theorem RC {P G : Prop} (h : G) (s : G → P := by first | exact WL_nil | exact fun h => WL_un (h := h) | exact fun h => WL_N h | exact fun h => WL_M h | exact WC_seq | exact WC_block | exact fun h => WC_cond_t (ht := h) | exact fun h => WC_cond_f (he := h) | exact WC_skip | exact WC_ret | exact WC_exit) : P := s h
theorem RC0 {P G : Prop} (h : G) (s : G → P := by first | exact WL_nil | exact fun h => WL_un (h := h) | exact fun h => WL_N h | exact fun h => WL_M h | exact WC_seq | exact fun h => WC_cond_t (ht := h) | exact fun h => WC_cond_f (he := h) | exact WC_skip | exact WC_ret | exact WC_exit) : P := s h
theorem RQr {P G : Prop} (h : G) (s : G → P := by first | exact fun h => WL_Q (QW_a h) | exact fun h => WL_Y (QW_a h) | exact fun h => WR_Q rfl (QW_a h) | exact fun h => WR_late rfl rfl rfl (OW_Q (QW_a h)) | exact fun h => WR_Y rfl (QW_a h)) : P := s h
theorem RX {P G : Prop} (h : G) (s : G → P := by first | exact WL_Q | exact fun h => WR_Q rfl h | exact fun h => WR_late rfl rfl rfl (OW_Q h)) : P := s h
theorem OX {P G : Prop} (h : G) (s : G → P := by first | exact fun h => WL_op rfl h | exact fun h => WR_late rfl rfl rfl h | exact fun h => WR_opG rfl rfl h) : P := s h
theorem WG (id : Nat) {c : Cx} {l : List Oper} {K : Exit → St → Prop} {σ : St} (h : WL c l.toArray l K σ) : WC c (.region id l.toArray false) K σ := WC_region h
theorem RU {P G : Prop} (h : G) (s : G → P := by first | exact WR_nil | exact fun h => WR_un rfl (hk := h) | exact fun h => WR_N rfl h | exact fun h => WR_M rfl h | exact fun h => WR_skN rfl (h := h) | exact fun h => WR_skM rfl (h := h) | exact fun h => WR_skU rfl (h := h)) : P := s h
theorem SD {A B : List (Nat × Obj)} {G : Prop} (h : G) (s : ∀ q ∈ A, q ∈ B := by first | exact fun _ h => h | exact sub_mem (by repeat (first | exact .refl _ | exact List.nil_sublist _ | exact List.sublist_append_right _ _ | exact List.Sublist.append (.refl _) (List.sublist_append_right _ _) | apply List.Sublist.cons_cons | apply List.Sublist.cons))) : (∀ q ∈ A, q ∈ B) ∧ G := ⟨s, h⟩
theorem WC_regB {c : Cx} (n : Nat) {id : Nat} {l : List Oper} {K : Exit → St → Prop} {σ : St} (h : WL c l.toArray l K σ) (_hb : Nat.blt id n = true := by exact rfl) : WC c (.region id l.toArray false) K σ := WC_region h
end Go.Proofs.YtncgndcepoicbaaGreat
namespace Go.Proofs.YtncgndcepoicbaaGreat
open Go.RowKit
def FnE (P : Program) (f : FuncId) (args : List Value) (L : List (Nat × Obj)) (Rr Rp : Value → List (Nat × Obj) → Prop) : Prop := ∀ g w, Mem g L w → Calls P f args.toArray w (EndR g Rr Rp)
theorem EndR.mono {g : World} {Rr Rp Rr' Rp' : Value → List (Nat × Obj) → Prop} (h1 : ∀ v L, Rr v L → Rr' v L) (h2 : ∀ v L, Rp v L → Rp' v L) {e : Ending} {w : World} (h : EndR g Rr Rp e w) : EndR g Rr' Rp' e w := by
  rcases h with ⟨v, L, a, b, c⟩ | ⟨v, L, a, b, c⟩
  · exact .inl ⟨v, L, a, b, h1 v L c⟩
  · exact .inr ⟨v, L, a, b, h2 v L c⟩
theorem FnE.mono {P : Program} {f : FuncId} {args : List Value} {L : List (Nat × Obj)} {Rr Rp Rr' Rp' : Value → List (Nat × Obj) → Prop} (h : FnE P f args L Rr Rp) (h1 : ∀ v L, Rr v L → Rr' v L) (h2 : ∀ v L, Rp v L → Rp' v L) : FnE P f args L Rr' Rp' :=
  fun g w hm => (h g w hm).mono fun _ _ hE => hE.mono h1 h2
theorem FnE.toFnP {P : Program} {f : FuncId} {args : List Value} {L : List (Nat × Obj)} {Rr Rp : Value → List (Nat × Obj) → Prop} (h : FnE P f args L Rr Rp) (hn : ∀ v L', ¬ Rr v L') : FnP P f args L Rp :=
  fun g w hm => (h g w hm).mono fun _ _ hE => by
    rcases hE with ⟨v, L', _, _, c⟩ | ⟨v, L', a, b, c⟩
    · exact (hn v L' c).elim
    · exact ⟨v, L', a, b, c⟩
theorem FnE_enter {P : Program} {f : FuncId} {fn : Func} {code : Code} {args : List Value} {L : List (Nat × Obj)} {Rr Rp : Value → List (Nat × Obj) → Prop} {N : Nat} (hf : P.funcs[f]? = some fn) (hb : fn.body = some code) (hN : fn.ntmps = N) (hl : Nat.ble args.length N = true)
    (h : ∀ g, WC ⟨P, g, N, 0, none⟩ code (postL ⟨P, g, N, 0, none⟩ fn Rr Rp) ⟨initS 0 args, [], L⟩) : FnE P f args L Rr Rp := enterL hf hb hN hl h
section
variable {c : Cx} {o : Oper} {Kn : St → Prop} {K : Exit → St → Prop} {σ : St}
theorem OW_enterE {f : FuncId} {vs : List Value} {Rr Rp : Value → List (Nat × Obj) → Prop} (hnd : ∀ cc, o.op ≠ .defer cc) (hr : ∀ a w, Holds c.g c.N σ a w → (execOp a.eval o).run c.P w = .ok (.enter f vs.toArray) w) (hd : dok c.N o.dst = true)
    (hF : FnE c.P f vs σ.L Rr Rp) (hk : ∀ v L', Rr v L' → Kn (St.put ⟨σ.s, σ.D, L'⟩ o.dst v)) (hp : ∀ v L', Rp v L' → K (.panic (pan v)) ⟨[], σ.D, L'⟩) : OW c o Kn K σ := fun a w hH => by
  refine ⟨fun _ _ => trivial, ?_⟩
  rw [Oper.semAt_eq _ _ _ hnd, hr a w hH]
  refine ⟨fun h => by simp at h, (callsIn_fw c.r _ (hF c.g w hH.mem)).mono fun e w' hE => ?_⟩
  rcases hE with ⟨v, L', h1, h2, h3⟩ | ⟨v, L', h1, h2, h3⟩
  · subst h1
    exact ⟨_, (hH.mem' h2).put hd v, hk v L' h3⟩
  · subst h1
    exact ⟨σ.D, L', ⟨hH.size, (fun t u hu => by cases hu), hH.defers, h2⟩, hp v L' h3⟩
theorem call_run {f : FuncId} {x : Operand} {A B : Array Value} {args : Array Operand} {tys : Array TypeId} [hf : FCall c.P f] {vs : List Value} (ho : o.op = .call { callee := .value x, args := args, argTypes := tys }) (hx : ev σ.s x = some (.func (.func f) A B)) (ha : evs σ.s args.toList = some vs) (a : Act) (w : World) (hH : Holds c.g c.N σ a w) :
    (execOp a.eval o).run c.P w = .ok (.enter f (A.toList ++ vs ++ B.toList).toArray) w := by
  have hargs : args.map a.eval = vs.toArray := by
    apply Array.ext'
    simpa using hH.evs ha
  have e : (A.toList ++ vs ++ B.toList).toArray = A ++ vs.toArray ++ B := by apply Array.ext'; simp
  rw [e]
  simp [execOp, ho, resolve, Deferred.ofValue, hH.ev hx, hargs, invoke, hf.h]
end
end Go.Proofs.YtncgndcepoicbaaGreat
namespace Go.Proofs.YtncgndcepoicbaaGreat
open Go.RowKit
theorem part1 {P : Program} {t : TypeId} [ha : TAgg P t false] {xs : Array Value} {off : Nat} {v : Value} (h : xs[off]? = some v) (w : World) : (part t xs off).run P w = .ok v w := by
  simp [part, ha.h, h]
theorem partN {P : Program} {t n : Nat} [ha : TAgg P t true] [hs : TSize P t n] {xs : Array Value} {off : Nat} (w : World) : (part t xs off).run P w = .ok (.agg (xs.extract off (off + n))) w := by
  simp [part, ha.h, hs.h]
section
variable {c : Cx} {s : List (Nat × Value)} {L : List (Nat × Obj)} {o : Oper}
theorem Qt_fieldV {t i off ft n : Nat} [hf : TFld c.P t i off ft n] [ha : TAgg c.P ft false] {x : Operand} {cs : Array Value} {v : Value} (ho : o.op = .field t x i) (hx : ev s x = some (.agg cs) := by exact rfl) (hv : cs[off]? = some v := by first | with_reducible assumption | rfl | assumption) : Qt c s L o v :=
  Qt_of_run (by simp [ho]) (fun ρ hρ w _ => by
    obtain ⟨fs, f, h1, h2, h3, h4, h5, h6⟩ := hf.h
    subst h3 h4
    have h := part1 (P := c.P) (t := f.type) (xs := cs) (off := f.offset) hv w
    simp [execOp, ho, hρ x _ hx, Instr.field, run_underlying h1, h2, asAgg, h])
end
end Go.Proofs.YtncgndcepoicbaaGreat
namespace Go.Proofs.YtncgndcepoicbaaGreat
open Go.RowKit
def WCn (c : Cx) (x : Code) (K : Exit → St → Prop) : Nat → St → Prop
  | 0, _ => False
  | m + 1, σ => WC c x (thenK (WCn c x K m) K) σ
theorem WCn.rounds {c : Cx} {x : Code} {K : Exit → St → Prop} : ∀ {m : Nat} {σ : St}, WCn c x K m σ → ∀ a w, Holds c.g c.N σ a w → Code.roundsIn (Fw c.r) c.n c.P x (lift c K) m a w
  | 0, _, h, _, _, _ => h.elim
  | m + 1, σ, h, a, w, ha => by
    rw [roundsIn_succ]
    refine Go.wpIn_mono ((show WC c x (thenK (WCn c x K m) K) σ from h) a w ha) fun e a' w' hl => ?_
    obtain ⟨σ', h1, h2⟩ := hl
    cases e with
    | normal => exact WCn.rounds (m := m) h2 a' w' h1
    | _ => exact ⟨σ', h1, h2⟩
theorem WC_unroll {c : Cx} {x : Code} {K : Exit → St → Prop} {σ : St} (m : Nat) (h : WCn c x K m σ) : WC c (.loop x) K σ := fun a w ha => wpIn_loop_rounds m (h.rounds a w ha)
theorem WCn_s {c : Cx} {x : Code} {K : Exit → St → Prop} {m : Nat} {σ : St} (h : WC c x (thenK (WCn c x K m) K) σ) : WCn c x K (m + 1) σ := h
def FilledA (n : Nat) : Array Value → List (Nat × Value) → Array Value → Prop
  | z, [], cs => cs = z
  | z, (i, v) :: r, cs => v.cells.size = n ∧ i * n + n ≤ z.size ∧ FilledA n (putR z (i * n) v.cells) r cs
theorem fill_of_FilledA {n : Nat} : ∀ {parts : List (Nat × Value)} {z cs : Array Value}, FilledA n z parts cs → Instr.fill (fun i => some (i * n, n)) z parts = some cs
  | [], z, cs, h => by cases h; rfl
  | (i, v) :: r, z, cs, ⟨h2, h3, h4⟩ => by
    simp only [Instr.fill]
    rw [if_neg (by simp [h2]; omega)]
    have hf := fold_put v.cells.toList 0 (i * n) z (by simp; omega)
    have he : (v.cells.zipIdx.foldl (fun (cs : Array Value) (p : Value × Nat) => cs.setIfInBounds (i * n + p.2) p.1) z) = putR z (i * n) v.cells := by
      rw [← Array.foldl_toList, Array.toList_zipIdx, hf]
      simp
    have hh := fill_of_FilledA h4
    rw [← he] at hh
    exact hh
class TBuildA (P : Program) (t : TypeId) (z : outParam (Array Value)) (n : outParam Nat) : Prop where
  h : ∀ parts, P.built t parts = Instr.fill (fun i => some (i * n, n)) z parts
theorem Qt_buildA {c : Cx} {s : List (Nat × Value)} {L : List (Nat × Obj)} {o : Oper} {t : TypeId} {z : Array Value} {n : Nat} [hb : TBuildA c.P t z n] {parts : Array (Nat × Operand)} {vs : List (Nat × Value)} {cs : Array Value} (ho : o.op = .build t parts) (hx : evp s parts.toList = some vs := by exact rfl) (hf : FilledA n z vs cs := by repeat (first | exact rfl | refine ⟨(by first | with_reducible assumption | rfl | assumption), (by first | exact Nat.le_of_ble_eq_true rfl | omega), ?_⟩)) : Qt c s L o (.agg cs) :=
  ⟨(fun cc => by simp [ho]), fun ρ hρ w _ => by
    have h1 := evp_map hρ hx
    have h2 := run_build (P := c.P) w t (parts.map fun (i, x) => (i, ρ x)) cs (by
      rw [hb.h, Array.toList_map, h1]
      have := fill_of_FilledA hf
      simpa using this)
    simp [execOp, ho, h2]⟩
section
variable {c : Cx} {s : List (Nat × Value)} {L : List (Nat × Obj)} {o : Oper}
theorem Qt_indexA {t len E n : Nat} [hu : TUnd c.P t (.array len E)] [hs : TSize c.P E n] [ha : TAgg c.P E true] {x y : Operand} {k : IntKind} {i : Int} {vs : Array Value} (ho : o.op = .index t x y) (hx : ev s x = some (.agg vs) := by exact rfl) (hy : ev s y = some (.int k i) := by exact rfl) (h0 : 0 ≤ i := by first | decide | with_reducible assumption | omega) (h1 : i < len := by first | decide | with_reducible assumption | omega) : Qt c s L o (.agg (vs.extract (i.toNat * n) (i.toNat * n + n))) :=
  Qt_of_run (by simp [ho]) (fun ρ hρ w _ => by
    have h := partN (P := c.P) (t := E) (n := n) (xs := vs) (off := i.toNat * n) w
    simp [execOp, ho, hρ x _ hx, hρ y _ hy, Instr.index, asIntOf, run_underlying hu.h, hs.h, h0, h1, h])
theorem Qt_indexV {t len E n : Nat} [hu : TUnd c.P t (.array len E)] [hs : TSize c.P E n] [ha : TAgg c.P E false] {x y : Operand} {k : IntKind} {i : Int} {vs : Array Value} {v : Value} (ho : o.op = .index t x y) (hx : ev s x = some (.agg vs) := by exact rfl) (hy : ev s y = some (.int k i) := by exact rfl) (h0 : 0 ≤ i := by first | decide | with_reducible assumption | omega) (h1 : i < len := by first | decide | with_reducible assumption | omega) (hv : vs[i.toNat * n]? = some v := by first | with_reducible assumption | rfl) : Qt c s L o v :=
  Qt_of_run (by simp [ho]) (fun ρ hρ w _ => by
    have h := part1 (P := c.P) (t := E) (xs := vs) (off := i.toNat * n) hv w
    simp [execOp, ho, hρ x _ hx, hρ y _ hy, Instr.index, asIntOf, run_underlying hu.h, hs.h, h0, h1, h])
end
end Go.Proofs.YtncgndcepoicbaaGreat
namespace Go.Proofs.YtncgndcepoicbaaGreat
instance : TSize Tryz.prog 2 1 := ⟨Tryz.sizeOf2⟩
instance : TAgg Tryz.prog 2 false := ⟨Tryz.isAgg2⟩
theorem row2 : (Tryz.prog.info? 2).map (fun i => (i.size, i.bytes)) = some (1, 8) := by kernel_rfl
instance : TUnd Tryz.prog 2 (.int Go.IntKind.i64) := ⟨Tryz.underlying2⟩
instance : TSize Tryz.prog 3 1 := ⟨Tryz.sizeOf3⟩
instance : TAgg Tryz.prog 3 false := ⟨Tryz.isAgg3⟩
instance : TZero Tryz.prog 3 (Go.Value.int Go.IntKind.i64 0) := ⟨Tryz.zeroValue3⟩
theorem row3 : (Tryz.prog.info? 3).map (fun i => (i.size, i.bytes)) = some (1, 8) := by kernel_rfl
instance : TUnd Tryz.prog 3 (.int Go.IntKind.i64) := ⟨Tryz.underlying3⟩
instance : TSize Tryz.prog 4 1 := ⟨Tryz.sizeOf4⟩
instance : TAgg Tryz.prog 4 false := ⟨Tryz.isAgg4⟩
instance : TUnd Tryz.prog 4 .bool := ⟨Tryz.underlying4⟩
instance : TUnd Tryz.prog 5 (.int Go.IntKind.u8) := ⟨Tryz.underlying5⟩
instance : TUnd Tryz.prog 9 .string := ⟨Tryz.underlying9⟩
instance : TUnd Tryz.prog 20 (Go.TypeDesc.interface #[]) := ⟨Tryz.underlying20⟩
instance : TSize Tryz.prog 22 1 := ⟨Tryz.sizeOf22⟩
instance : TAgg Tryz.prog 22 false := ⟨Tryz.isAgg22⟩
instance : TZero Tryz.prog 22 (Go.Value.slice Option.none 0 0) := ⟨Tryz.zeroValue22⟩
instance : TUnd Tryz.prog 22 (.slice 40) := ⟨Tryz.underlying22⟩
instance : TSize Tryz.prog 23 1 := ⟨Tryz.sizeOf23⟩
instance : TAgg Tryz.prog 23 false := ⟨Tryz.isAgg23⟩
instance : TUnd Tryz.prog 23 (.slice 100) := ⟨Tryz.underlying23⟩
instance : TSize Tryz.prog 25 4 := ⟨Tryz.sizeOf25⟩
instance : TAgg Tryz.prog 25 true := ⟨Tryz.isAgg25⟩
def zc25 : Array Value :=  #[Go.Value.slice Option.none 0 0, Go.Value.slice Option.none 0 0, Go.Value.int Go.IntKind.i64 0, Go.Value.int Go.IntKind.i64 0]
instance : TZero Tryz.prog 25 (.agg zc25) := ⟨Tryz.zeroValue25⟩
instance : TFld Tryz.prog 25 0 0 22 1 := ⟨⟨_, _, Tryz.underlying25, rfl, rfl, rfl, Tryz.sizeOf22, by decide⟩⟩
instance : TFld Tryz.prog 25 1 1 23 1 := ⟨⟨_, _, Tryz.underlying25, rfl, rfl, rfl, Tryz.sizeOf23, by decide⟩⟩
instance : TFld Tryz.prog 25 2 2 2 1 := ⟨⟨_, _, Tryz.underlying25, rfl, rfl, rfl, Tryz.sizeOf2, by decide⟩⟩
instance : TFld Tryz.prog 25 3 3 2 1 := ⟨⟨_, _, Tryz.underlying25, rfl, rfl, rfl, Tryz.sizeOf2, by decide⟩⟩
instance : TBuild Tryz.prog 25 zc25 [(0, 1), (1, 1), (2, 1), (3, 1)] := ⟨fun _ => by kernel_rfl⟩
instance : TSize Tryz.prog 27 5 := ⟨Tryz.sizeOf27⟩
instance : TAgg Tryz.prog 27 true := ⟨Tryz.isAgg27⟩
def zc27 : Array Value :=  #[Go.Value.int Go.IntKind.i64 0, Go.Value.int Go.IntKind.i64 0, Go.Value.int Go.IntKind.i64 0, Go.Value.int Go.IntKind.i64 0, Go.Value.int Go.IntKind.i64 0]
instance : TZero Tryz.prog 27 (.agg zc27) := ⟨Tryz.zeroValue27⟩
instance : TFld Tryz.prog 27 0 0 3 1 := ⟨⟨_, _, Tryz.underlying27, rfl, rfl, rfl, Tryz.sizeOf3, by decide⟩⟩
instance : TFld Tryz.prog 27 1 1 3 1 := ⟨⟨_, _, Tryz.underlying27, rfl, rfl, rfl, Tryz.sizeOf3, by decide⟩⟩
instance : TFld Tryz.prog 27 2 2 3 1 := ⟨⟨_, _, Tryz.underlying27, rfl, rfl, rfl, Tryz.sizeOf3, by decide⟩⟩
instance : TFld Tryz.prog 27 3 3 3 1 := ⟨⟨_, _, Tryz.underlying27, rfl, rfl, rfl, Tryz.sizeOf3, by decide⟩⟩
instance : TFld Tryz.prog 27 4 4 3 1 := ⟨⟨_, _, Tryz.underlying27, rfl, rfl, rfl, Tryz.sizeOf3, by decide⟩⟩
instance : TBuild Tryz.prog 27 zc27 [(0, 1), (1, 1), (2, 1), (3, 1), (4, 1)] := ⟨fun _ => by kernel_rfl⟩
instance : TUnd Tryz.prog 28 (.slice 46) := ⟨Tryz.underlying28⟩
instance : TUnd Tryz.prog 30 (.pointer 110) := ⟨Tryz.underlying30⟩
instance : TSize Tryz.prog 31 1 := ⟨Tryz.sizeOf31⟩
instance : TAgg Tryz.prog 31 false := ⟨Tryz.isAgg31⟩
instance : TZero Tryz.prog 31 (Go.Value.int Go.IntKind.i64 0) := ⟨Tryz.zeroValue31⟩
instance : TUnd Tryz.prog 34 (.pointer 113) := ⟨Tryz.underlying34⟩
instance : TSize Tryz.prog 38 1 := ⟨Tryz.sizeOf38⟩
instance : TAgg Tryz.prog 38 false := ⟨Tryz.isAgg38⟩
instance : TZero Tryz.prog 38 (Go.Value.slice Option.none 0 0) := ⟨Tryz.zeroValue38⟩
instance : TUnd Tryz.prog 38 (.slice 3) := ⟨Tryz.underlying38⟩
instance : TSize Tryz.prog 40 4 := ⟨Tryz.sizeOf40⟩
instance : TAgg Tryz.prog 40 true := ⟨Tryz.isAgg40⟩
def zc40 : Array Value :=  #[Go.Value.int Go.IntKind.i64 0, Go.Value.int Go.IntKind.i64 0, Go.Value.int Go.IntKind.i64 0, Go.Value.int Go.IntKind.i64 0]
instance : TZero Tryz.prog 40 (.agg zc40) := ⟨Tryz.zeroValue40⟩
theorem row40 : (Tryz.prog.info? 40).map (fun i => (i.size, i.bytes)) = some (4, 32) := by kernel_rfl
instance : TFld Tryz.prog 40 0 0 3 1 := ⟨⟨_, _, Tryz.underlying40, rfl, rfl, rfl, Tryz.sizeOf3, by decide⟩⟩
instance : TFld Tryz.prog 40 1 1 2 1 := ⟨⟨_, _, Tryz.underlying40, rfl, rfl, rfl, Tryz.sizeOf2, by decide⟩⟩
instance : TFld Tryz.prog 40 2 2 2 1 := ⟨⟨_, _, Tryz.underlying40, rfl, rfl, rfl, Tryz.sizeOf2, by decide⟩⟩
instance : TFld Tryz.prog 40 3 3 3 1 := ⟨⟨_, _, Tryz.underlying40, rfl, rfl, rfl, Tryz.sizeOf3, by decide⟩⟩
instance : TBuild Tryz.prog 40 zc40 [(0, 1), (1, 1), (2, 1), (3, 1)] := ⟨fun _ => by kernel_rfl⟩
instance : TSize Tryz.prog 42 10 := ⟨Tryz.sizeOf42⟩
instance : TAgg Tryz.prog 42 true := ⟨Tryz.isAgg42⟩
def zc42 : Array Value :=  #[Go.Value.int Go.IntKind.i64 0, Go.Value.int Go.IntKind.i64 0, Go.Value.slice Option.none 0 0, Go.Value.int Go.IntKind.i64 0, Go.Value.int Go.IntKind.i64 0, Go.Value.int Go.IntKind.i64 0, Go.Value.int Go.IntKind.i64 0, Go.Value.int Go.IntKind.i64 0, Go.Value.int Go.IntKind.i64 0, Go.Value.int Go.IntKind.i64 0]
instance : TZero Tryz.prog 42 (.agg zc42) := ⟨Tryz.zeroValue42⟩
theorem row42 : (Tryz.prog.info? 42).map (fun i => (i.size, i.bytes)) = some (10, 96) := by kernel_rfl
instance : TFld Tryz.prog 42 0 0 3 1 := ⟨⟨_, _, Tryz.underlying42, rfl, rfl, rfl, Tryz.sizeOf3, by decide⟩⟩
instance : TFld Tryz.prog 42 1 1 2 1 := ⟨⟨_, _, Tryz.underlying42, rfl, rfl, rfl, Tryz.sizeOf2, by decide⟩⟩
instance : TFld Tryz.prog 42 2 2 38 1 := ⟨⟨_, _, Tryz.underlying42, rfl, rfl, rfl, Tryz.sizeOf38, by decide⟩⟩
instance : TFld Tryz.prog 42 3 3 3 1 := ⟨⟨_, _, Tryz.underlying42, rfl, rfl, rfl, Tryz.sizeOf3, by decide⟩⟩
instance : TFld Tryz.prog 42 4 4 3 1 := ⟨⟨_, _, Tryz.underlying42, rfl, rfl, rfl, Tryz.sizeOf3, by decide⟩⟩
instance : TFld Tryz.prog 42 5 5 40 4 := ⟨⟨_, _, Tryz.underlying42, rfl, rfl, rfl, Tryz.sizeOf40, by decide⟩⟩
instance : TFld Tryz.prog 42 6 9 3 1 := ⟨⟨_, _, Tryz.underlying42, rfl, rfl, rfl, Tryz.sizeOf3, by decide⟩⟩
instance : TBuild Tryz.prog 42 zc42 [(0, 1), (1, 1), (2, 1), (3, 1), (4, 1), (5, 4), (9, 1)] := ⟨fun _ => by kernel_rfl⟩
instance : TAgg Tryz.prog 44 false := ⟨Tryz.isAgg44⟩
instance : TUnd Tryz.prog 44 (.int Go.IntKind.i8) := ⟨Tryz.underlying44⟩
instance : TSize Tryz.prog 46 12 := ⟨Tryz.sizeOf46⟩
instance : TAgg Tryz.prog 46 true := ⟨Tryz.isAgg46⟩
instance : TFld Tryz.prog 46 0 0 42 10 := ⟨⟨_, _, Tryz.underlying46, rfl, rfl, rfl, Tryz.sizeOf42, by decide⟩⟩
instance : TFld Tryz.prog 46 1 10 44 1 := ⟨⟨_, _, Tryz.underlying46, rfl, rfl, rfl, Tryz.sizeOf44, by decide⟩⟩
instance : TFld Tryz.prog 46 2 11 44 1 := ⟨⟨_, _, Tryz.underlying46, rfl, rfl, rfl, Tryz.sizeOf44, by decide⟩⟩
instance : TSize Tryz.prog 61 8 := ⟨Tryz.sizeOf61⟩
instance : TAgg Tryz.prog 61 true := ⟨Tryz.isAgg61⟩
def zc61 : Array Value :=  #[Go.Value.int Go.IntKind.i64 0, Go.Value.int Go.IntKind.i64 0, Go.Value.int Go.IntKind.i64 0, Go.Value.int Go.IntKind.i64 0, Go.Value.int Go.IntKind.i64 0, Go.Value.int Go.IntKind.i64 0, Go.Value.int Go.IntKind.i64 0, Go.Value.int Go.IntKind.i64 0]
instance : TZero Tryz.prog 61 (.agg zc61) := ⟨Tryz.zeroValue61⟩
instance : TUnd Tryz.prog 61 (.array 8 3) := ⟨Tryz.underlying61⟩
instance : TSize Tryz.prog 72 1 := ⟨Tryz.sizeOf72⟩
instance : TAgg Tryz.prog 72 false := ⟨Tryz.isAgg72⟩
instance : TUnd Tryz.prog 72 (.slice 76) := ⟨Tryz.underlying72⟩
instance : TSize Tryz.prog 76 2 := ⟨Tryz.sizeOf76⟩
instance : TAgg Tryz.prog 76 true := ⟨Tryz.isAgg76⟩
def zc76 : Array Value :=  #[Go.Value.int Go.IntKind.i64 0, Go.Value.int Go.IntKind.i64 0]
theorem row76 : (Tryz.prog.info? 76).map (fun i => (i.size, i.bytes)) = some (2, 16) := by kernel_rfl
instance : TFld Tryz.prog 76 0 0 2 1 := ⟨⟨_, _, Tryz.underlying76, rfl, rfl, rfl, Tryz.sizeOf2, by decide⟩⟩
instance : TFld Tryz.prog 76 1 1 3 1 := ⟨⟨_, _, Tryz.underlying76, rfl, rfl, rfl, Tryz.sizeOf3, by decide⟩⟩
instance : TBuild Tryz.prog 76 zc76 [(0, 1), (1, 1)] := ⟨fun _ => by kernel_rfl⟩
instance : TSize Tryz.prog 91 1 := ⟨Tryz.sizeOf91⟩
instance : TAgg Tryz.prog 91 false := ⟨Tryz.isAgg91⟩
theorem row91 : (Tryz.prog.info? 91).map (fun i => (i.size, i.bytes)) = some (1, 24) := by kernel_rfl
instance : TUnd Tryz.prog 91 (.slice 42) := ⟨Tryz.underlying91⟩
instance : TSize Tryz.prog 100 5 := ⟨Tryz.sizeOf100⟩
instance : TAgg Tryz.prog 100 true := ⟨Tryz.isAgg100⟩
def zc100 : Array Value :=  #[Go.Value.int Go.IntKind.i64 0, Go.Value.int Go.IntKind.i64 0, Go.Value.int Go.IntKind.i64 0, Go.Value.int Go.IntKind.i64 0, Go.Value.slice Option.none 0 0]
instance : TZero Tryz.prog 100 (.agg zc100) := ⟨Tryz.zeroValue100⟩
theorem row100 : (Tryz.prog.info? 100).map (fun i => (i.size, i.bytes)) = some (5, 56) := by kernel_rfl
instance : TFld Tryz.prog 100 0 0 40 4 := ⟨⟨_, _, Tryz.underlying100, rfl, rfl, rfl, Tryz.sizeOf40, by decide⟩⟩
instance : TFld Tryz.prog 100 1 4 22 1 := ⟨⟨_, _, Tryz.underlying100, rfl, rfl, rfl, Tryz.sizeOf22, by decide⟩⟩
instance : TBuild Tryz.prog 100 zc100 [(0, 4), (4, 1)] := ⟨fun _ => by kernel_rfl⟩
def zc105 : Array Value :=  #[Go.Value.slice Option.none 0 0, Go.Value.slice Option.none 0 0, Go.Value.int Go.IntKind.i64 0, Go.Value.int Go.IntKind.i64 0, Go.Value.int Go.IntKind.i64 0, Go.Value.int Go.IntKind.i64 0, Go.Value.int Go.IntKind.i64 0, Go.Value.int Go.IntKind.i64 0, Go.Value.int Go.IntKind.i64 0]
instance : TFld Tryz.prog 105 1 4 27 5 := ⟨⟨_, _, Tryz.underlying105, rfl, rfl, rfl, Tryz.sizeOf27, by decide⟩⟩
instance : TBuild Tryz.prog 105 zc105 [(0, 4), (4, 5)] := ⟨fun _ => by kernel_rfl⟩
instance : TSize Tryz.prog 107 8 := ⟨Tryz.sizeOf107⟩
instance : TAgg Tryz.prog 107 true := ⟨Tryz.isAgg107⟩
def zc107 : Array Value :=  #[Go.Value.slice Option.none 0 0, Go.Value.slice Option.none 0 0, Go.Value.slice Option.none 0 0, Go.Value.slice Option.none 0 0, Go.Value.slice Option.none 0 0, Go.Value.slice Option.none 0 0, Go.Value.slice Option.none 0 0, Go.Value.slice Option.none 0 0]
instance : TZero Tryz.prog 107 (.agg zc107) := ⟨Tryz.zeroValue107⟩
instance : TUnd Tryz.prog 107 (.array 8 72) := ⟨Tryz.underlying107⟩
instance : TSize Tryz.prog 108 1 := ⟨Tryz.sizeOf108⟩
instance : TAgg Tryz.prog 108 false := ⟨Tryz.isAgg108⟩
instance : TUnd Tryz.prog 108 (.slice 91) := ⟨Tryz.underlying108⟩
instance : TSize Tryz.prog 110 21 := ⟨Tryz.sizeOf110⟩
instance : TAgg Tryz.prog 110 true := ⟨Tryz.isAgg110⟩
def zc110 : Array Value :=  #[Go.Value.slice Option.none 0 0, Go.Value.slice Option.none 0 0, Go.Value.int Go.IntKind.i64 0, Go.Value.int Go.IntKind.i64 0, Go.Value.int Go.IntKind.i64 0, Go.Value.int Go.IntKind.i64 0, Go.Value.int Go.IntKind.i64 0, Go.Value.int Go.IntKind.i64 0, Go.Value.int Go.IntKind.i64 0, Go.Value.slice Option.none 0 0, Go.Value.slice Option.none 0 0, Go.Value.slice Option.none 0 0, Go.Value.slice Option.none 0 0, Go.Value.slice Option.none 0 0, Go.Value.slice Option.none 0 0, Go.Value.slice Option.none 0 0, Go.Value.slice Option.none 0 0, Go.Value.slice Option.none 0 0, Go.Value.slice Option.none 0 0, Go.Value.slice Option.none 0 0, Go.Value.slice Option.none 0 0]
instance : TZero Tryz.prog 110 (.agg zc110) := ⟨Tryz.zeroValue110⟩
instance : TFld Tryz.prog 110 0 0 105 9 := ⟨⟨_, _, Tryz.underlying110, rfl, rfl, rfl, Tryz.sizeOf105, by decide⟩⟩
instance : TFld Tryz.prog 110 1 9 91 1 := ⟨⟨_, _, Tryz.underlying110, rfl, rfl, rfl, Tryz.sizeOf91, by decide⟩⟩
instance : TFld Tryz.prog 110 2 10 107 8 := ⟨⟨_, _, Tryz.underlying110, rfl, rfl, rfl, Tryz.sizeOf107, by decide⟩⟩
instance : TFld Tryz.prog 110 3 18 38 1 := ⟨⟨_, _, Tryz.underlying110, rfl, rfl, rfl, Tryz.sizeOf38, by decide⟩⟩
instance : TFld Tryz.prog 110 4 19 22 1 := ⟨⟨_, _, Tryz.underlying110, rfl, rfl, rfl, Tryz.sizeOf22, by decide⟩⟩
instance : TFld Tryz.prog 110 5 20 108 1 := ⟨⟨_, _, Tryz.underlying110, rfl, rfl, rfl, Tryz.sizeOf108, by decide⟩⟩
instance : TBuild Tryz.prog 110 zc110 [(0, 9), (9, 1), (10, 8), (18, 1), (19, 1), (20, 1)] := ⟨fun _ => by kernel_rfl⟩
def zc113 : Array Value :=  #[Go.Value.slice Option.none 0 0, Go.Value.slice Option.none 0 0, Go.Value.int Go.IntKind.i64 0, Go.Value.int Go.IntKind.i64 0, Go.Value.int Go.IntKind.i64 0, Go.Value.int Go.IntKind.i64 0, Go.Value.int Go.IntKind.i64 0, Go.Value.int Go.IntKind.i64 0, Go.Value.int Go.IntKind.i64 0, Go.Value.slice Option.none 0 0, Go.Value.int Go.IntKind.i64 0, Go.Value.slice Option.none 0 0, Go.Value.slice Option.none 0 0, Go.Value.slice Option.none 0 0, Go.Value.slice Option.none 0 0, Go.Value.slice Option.none 0 0, Go.Value.slice Option.none 0 0, Go.Value.slice Option.none 0 0, Go.Value.slice Option.none 0 0]
instance : TFld Tryz.prog 113 0 0 25 4 := ⟨⟨_, _, Tryz.underlying113, rfl, rfl, rfl, Tryz.sizeOf25, by decide⟩⟩
instance : TFld Tryz.prog 113 1 4 27 5 := ⟨⟨_, _, Tryz.underlying113, rfl, rfl, rfl, Tryz.sizeOf27, by decide⟩⟩
instance : TFld Tryz.prog 113 2 9 91 1 := ⟨⟨_, _, Tryz.underlying113, rfl, rfl, rfl, Tryz.sizeOf91, by decide⟩⟩
instance : TFld Tryz.prog 113 3 10 3 1 := ⟨⟨_, _, Tryz.underlying113, rfl, rfl, rfl, Tryz.sizeOf3, by decide⟩⟩
instance : TFld Tryz.prog 113 4 11 107 8 := ⟨⟨_, _, Tryz.underlying113, rfl, rfl, rfl, Tryz.sizeOf107, by decide⟩⟩
instance : TBuild Tryz.prog 113 zc113 [(0, 4), (4, 5), (9, 1), (10, 1), (11, 8)] := ⟨fun _ => by kernel_rfl⟩
instance : TSize Tryz.prog 124 1 := ⟨Tryz.sizeOf124⟩
instance : TAgg Tryz.prog 124 false := ⟨Tryz.isAgg124⟩
instance : TSize Tryz.prog 125 4 := ⟨Tryz.sizeOf125⟩
instance : TAgg Tryz.prog 125 true := ⟨Tryz.isAgg125⟩
def zc125 : Array Value :=  #[Go.Value.nilFunc, Go.Value.nilFunc, Go.Value.nilFunc, Go.Value.nilFunc]
instance : TZero Tryz.prog 125 (.agg zc125) := ⟨Tryz.zeroValue125⟩
instance : TUnd Tryz.prog 125 (.array 4 124) := ⟨Tryz.underlying125⟩
instance : TUnd Tryz.prog 137 (.slice 2) := ⟨Tryz.underlying137⟩
instance : TSize Tryz.prog 180 2 := ⟨Tryz.sizeOf180⟩
instance : TAgg Tryz.prog 180 true := ⟨Tryz.isAgg180⟩
def zc180 : Array Value :=  #[Go.Value.int Go.IntKind.i64 0, Go.Value.int Go.IntKind.i64 0]
instance : TZero Tryz.prog 180 (.agg zc180) := ⟨Tryz.zeroValue180⟩
instance : TFld Tryz.prog 180 0 0 3 1 := ⟨⟨_, _, Tryz.underlying180, rfl, rfl, rfl, Tryz.sizeOf3, by decide⟩⟩
instance : TFld Tryz.prog 180 1 1 3 1 := ⟨⟨_, _, Tryz.underlying180, rfl, rfl, rfl, Tryz.sizeOf3, by decide⟩⟩
instance : TBuild Tryz.prog 180 zc180 [(0, 1), (1, 1)] := ⟨fun _ => by kernel_rfl⟩
instance : TSize Tryz.prog 185 3 := ⟨Tryz.sizeOf185⟩
instance : TAgg Tryz.prog 185 true := ⟨Tryz.isAgg185⟩
def zc185 : Array Value :=  #[Go.Value.int Go.IntKind.i64 0, Go.Value.int Go.IntKind.i64 0, Go.Value.int Go.IntKind.i64 0]
instance : TZero Tryz.prog 185 (.agg zc185) := ⟨Tryz.zeroValue185⟩
instance : TUnd Tryz.prog 185 (.array 3 3) := ⟨Tryz.underlying185⟩
instance : TUnd Tryz.prog 189 (.slice 193) := ⟨Tryz.underlying189⟩
instance : TAgg Tryz.prog 191 false := ⟨Tryz.isAgg191⟩
instance : TSize Tryz.prog 193 6 := ⟨Tryz.sizeOf193⟩
def zc193 : Array Value :=  #[Go.Value.int Go.IntKind.i64 0, Go.Value.int Go.IntKind.i64 0, Go.Value.int Go.IntKind.i64 0, Go.Value.int Go.IntKind.i64 0, Go.Value.int Go.IntKind.i64 0, Go.Value.bool Bool.false]
theorem row193 : (Tryz.prog.info? 193).map (fun i => (i.size, i.bytes)) = some (6, 48) := by kernel_rfl
instance : TFld Tryz.prog 193 0 0 40 4 := ⟨⟨_, _, Tryz.underlying193, rfl, rfl, rfl, Tryz.sizeOf40, by decide⟩⟩
instance : TFld Tryz.prog 193 2 5 4 1 := ⟨⟨_, _, Tryz.underlying193, rfl, rfl, rfl, Tryz.sizeOf4, by decide⟩⟩
instance : TBuild Tryz.prog 193 zc193 [(0, 4), (4, 1), (5, 1)] := ⟨fun _ => by kernel_rfl⟩
instance : TSize Tryz.prog 196 1 := ⟨Tryz.sizeOf196⟩
instance : TAgg Tryz.prog 196 true := ⟨Tryz.isAgg196⟩
def zc196 : Array Value :=  #[Go.Value.int Go.IntKind.i64 0]
instance : TZero Tryz.prog 196 (.agg zc196) := ⟨Tryz.zeroValue196⟩
instance : TFld Tryz.prog 196 0 0 31 1 := ⟨⟨_, _, Tryz.underlying196, rfl, rfl, rfl, Tryz.sizeOf31, by decide⟩⟩
instance : TBuild Tryz.prog 196 zc196 [(0, 1)] := ⟨fun _ => by kernel_rfl⟩
instance : TUnd Tryz.prog 202 (.int Go.IntKind.u64) := ⟨Tryz.underlying202⟩
instance : TSize Tryz.prog 215 3 := ⟨Tryz.sizeOf215⟩
instance : TAgg Tryz.prog 215 true := ⟨Tryz.isAgg215⟩
def zc215 : Array Value :=  #[Go.Value.int Go.IntKind.i64 0, Go.Value.nilFunc, Go.Value.nilFunc]
instance : TZero Tryz.prog 215 (.agg zc215) := ⟨Tryz.zeroValue215⟩
instance : TFld Tryz.prog 215 0 0 3 1 := ⟨⟨_, _, Tryz.underlying215, rfl, rfl, rfl, Tryz.sizeOf3, by decide⟩⟩
instance : TFld Tryz.prog 215 1 1 191 1 := ⟨⟨_, _, Tryz.underlying215, rfl, rfl, rfl, Tryz.sizeOf191, by decide⟩⟩
instance : TBuild Tryz.prog 215 zc215 [(0, 1), (1, 1), (2, 1)] := ⟨fun _ => by kernel_rfl⟩
instance : TSize Tryz.prog 216 24 := ⟨Tryz.sizeOf216⟩
instance : TAgg Tryz.prog 216 true := ⟨Tryz.isAgg216⟩
def zc216 : Array Value :=  #[Go.Value.int Go.IntKind.i64 0, Go.Value.nilFunc, Go.Value.nilFunc, Go.Value.int Go.IntKind.i64 0, Go.Value.nilFunc, Go.Value.nilFunc, Go.Value.int Go.IntKind.i64 0, Go.Value.nilFunc, Go.Value.nilFunc, Go.Value.int Go.IntKind.i64 0, Go.Value.nilFunc, Go.Value.nilFunc, Go.Value.int Go.IntKind.i64 0, Go.Value.nilFunc, Go.Value.nilFunc, Go.Value.int Go.IntKind.i64 0, Go.Value.nilFunc, Go.Value.nilFunc, Go.Value.int Go.IntKind.i64 0, Go.Value.nilFunc, Go.Value.nilFunc, Go.Value.int Go.IntKind.i64 0, Go.Value.nilFunc, Go.Value.nilFunc]
instance : TZero Tryz.prog 216 (.agg zc216) := ⟨Tryz.zeroValue216⟩
instance : TUnd Tryz.prog 216 (.array 8 215) := ⟨Tryz.underlying216⟩
def zc219 : Array Value :=  #[Go.Value.bool Bool.false, Go.Value.bool Bool.false, Go.Value.bool Bool.false, Go.Value.bool Bool.false]
instance : TZero Tryz.prog 219 (.agg zc219) := ⟨Tryz.zeroValue219⟩
instance : TUnd Tryz.prog 219 (.array 4 4) := ⟨Tryz.underlying219⟩
instance : TUnd Tryz.prog 231 (.int Go.IntKind.u64) := ⟨Tryz.underlying231⟩
instance : TRow Tryz.prog 2 #[Go.Value.int Go.IntKind.i64 0] 1 8 := TRow.of Tryz.zeroValue2 rfl row2 rfl
instance : TRow Tryz.prog 3 #[Go.Value.int Go.IntKind.i64 0] 1 8 := TRow.of Tryz.zeroValue3 rfl row3 rfl
instance : TRow Tryz.prog 40 zc40 4 32 := TRow.of Tryz.zeroValue40 rfl row40 rfl
instance : TRow Tryz.prog 42 zc42 10 96 := TRow.of Tryz.zeroValue42 rfl row42 rfl
instance : TRow Tryz.prog 76 zc76 2 16 := TRow.of Tryz.zeroValue76 rfl row76 rfl
instance : TRow Tryz.prog 91 #[Go.Value.slice Option.none 0 0] 1 24 := TRow.of Tryz.zeroValue91 rfl row91 rfl
instance : TRow Tryz.prog 100 zc100 5 56 := TRow.of Tryz.zeroValue100 rfl row100 rfl
instance : TRow Tryz.prog 193 zc193 6 48 := TRow.of Tryz.zeroValue193 rfl row193 rfl
instance : FCall Tryz.prog 71 := ⟨Tryz.call71⟩
instance : FCall Tryz.prog 115 := ⟨Tryz.call115⟩
instance : FCall Tryz.prog 135 := ⟨Tryz.call135⟩
instance : FCall Tryz.prog 74 := ⟨Tryz.call74⟩
instance : FCall Tryz.prog 136 := ⟨Tryz.call136⟩
instance : FCall Tryz.prog 63 := ⟨Tryz.call63⟩
instance : FCall Tryz.prog 15 := ⟨Tryz.call15⟩
instance : FCall Tryz.prog 127 := ⟨Tryz.call127⟩
instance : FCall Tryz.prog 112 := ⟨Tryz.call112⟩
instance : FCall Tryz.prog 66 := ⟨Tryz.call66⟩
instance : FCall Tryz.prog 18 := ⟨Tryz.call18⟩
instance : FCall Tryz.prog 51 := ⟨Tryz.call51⟩
instance : FCall Tryz.prog 33 := ⟨Tryz.call33⟩
instance : FCall Tryz.prog 54 := ⟨Tryz.call54⟩
instance : FCall Tryz.prog 149 := ⟨Tryz.call149⟩
instance : FCall Tryz.prog 39 := ⟨Tryz.call39⟩
instance : FCall Tryz.prog 47 := ⟨Tryz.call47⟩
instance : FCall Tryz.prog 64 := ⟨Tryz.call64⟩
instance : FCall Tryz.prog 42 := ⟨Tryz.call42⟩
instance : FCall Tryz.prog 16 := ⟨Tryz.call16⟩
instance : FCall Tryz.prog 166 := ⟨Tryz.call166⟩
instance : FCall Tryz.prog 44 := ⟨Tryz.call44⟩
instance : FCall Tryz.prog 131 := ⟨Tryz.call131⟩
instance : FCall Tryz.prog 155 := ⟨Tryz.call155⟩
instance : FCall Tryz.prog 106 := ⟨Tryz.call106⟩
instance : FCall Tryz.prog 8 := ⟨Tryz.call8⟩
instance : FCall Tryz.prog 10 := ⟨Tryz.call10⟩
instance : FCall Tryz.prog 78 := ⟨Tryz.call78⟩
instance : FCall Tryz.prog 25 := ⟨Tryz.call25⟩
instance : FCall Tryz.prog 77 := ⟨Tryz.call77⟩
instance : FCall Tryz.prog 103 := ⟨Tryz.call103⟩
instance : FCall Tryz.prog 57 := ⟨Tryz.call57⟩
instance : FCall Tryz.prog 134 := ⟨Tryz.call134⟩
instance : FCall Tryz.prog 7 := ⟨Tryz.call7⟩
instance : FCall Tryz.prog 50 := ⟨Tryz.call50⟩
instance : FCall Tryz.prog 35 := ⟨Tryz.call35⟩
instance : FCall Tryz.prog 121 := ⟨Tryz.call121⟩
instance : FCall Tryz.prog 124 := ⟨Tryz.call124⟩
instance : FCall Tryz.prog 67 := ⟨Tryz.call67⟩
instance : FCall Tryz.prog 40 := ⟨Tryz.call40⟩
instance : FCall Tryz.prog 11 := ⟨Tryz.call11⟩
instance : FCall Tryz.prog 113 := ⟨Tryz.call113⟩
instance : FCall Tryz.prog 160 := ⟨Tryz.call160⟩
instance : FCall Tryz.prog 73 := ⟨Tryz.call73⟩
instance : FCall Tryz.prog 14 := ⟨Tryz.call14⟩
instance : FCall Tryz.prog 55 := ⟨Tryz.call55⟩
instance : FCall Tryz.prog 137 := ⟨Tryz.call137⟩
instance : FCall Tryz.prog 159 := ⟨Tryz.call159⟩
instance : FCall Tryz.prog 62 := ⟨Tryz.call62⟩
instance : FCall Tryz.prog 49 := ⟨Tryz.call49⟩
instance : FCall Tryz.prog 157 := ⟨Tryz.call157⟩
instance : FCall Tryz.prog 68 := ⟨Tryz.call68⟩
instance : FCall Tryz.prog 17 := ⟨Tryz.call17⟩
instance : FCall Tryz.prog 122 := ⟨Tryz.call122⟩
instance : FCall Tryz.prog 120 := ⟨Tryz.call120⟩
instance : FCall Tryz.prog 46 := ⟨Tryz.call46⟩
instance : FCall Tryz.prog 60 := ⟨Tryz.call60⟩
instance : FCall Tryz.prog 109 := ⟨Tryz.call109⟩
instance : FCall Tryz.prog 58 := ⟨Tryz.call58⟩
instance : FCall Tryz.prog 116 := ⟨Tryz.call116⟩
instance : FCall Tryz.prog 107 := ⟨Tryz.call107⟩
instance : FCall Tryz.prog 102 := ⟨Tryz.call102⟩
instance : FCall Tryz.prog 79 := ⟨Tryz.call79⟩
instance : FCall Tryz.prog 41 := ⟨Tryz.call41⟩
instance : FCall Tryz.prog 65 := ⟨Tryz.call65⟩
instance : FCall Tryz.prog 69 := ⟨Tryz.call69⟩
instance : FCall Tryz.prog 9 := ⟨Tryz.call9⟩
instance : FCall Tryz.prog 105 := ⟨Tryz.call105⟩
instance : FCall Tryz.prog 154 := ⟨Tryz.call154⟩
instance : FCall Tryz.prog 61 := ⟨Tryz.call61⟩
instance : FCall Tryz.prog 111 := ⟨Tryz.call111⟩
instance : FCall Tryz.prog 133 := ⟨Tryz.call133⟩
instance : FCall Tryz.prog 108 := ⟨Tryz.call108⟩
instance : FCall Tryz.prog 119 := ⟨Tryz.call119⟩
instance : FCall Tryz.prog 75 := ⟨Tryz.call75⟩
instance : FCall Tryz.prog 118 := ⟨Tryz.call118⟩
instance : FCall Tryz.prog 13 := ⟨Tryz.call13⟩
instance : FCall Tryz.prog 76 := ⟨Tryz.call76⟩
instance : FCall Tryz.prog 52 := ⟨Tryz.call52⟩
instance : FCall Tryz.prog 143 := ⟨Tryz.call143⟩
instance : FCall Tryz.prog 19 := ⟨Tryz.call19⟩
instance : FCall Tryz.prog 117 := ⟨Tryz.call117⟩
instance : FCall Tryz.prog 151 := ⟨Tryz.call151⟩
instance : FCall Tryz.prog 132 := ⟨Tryz.call132⟩
instance : FCall Tryz.prog 72 := ⟨Tryz.call72⟩
instance : FCall Tryz.prog 45 := ⟨Tryz.call45⟩
instance : FCall Tryz.prog 70 := ⟨Tryz.call70⟩
instance : FCall Tryz.prog 152 := ⟨Tryz.call152⟩
instance : FCall Tryz.prog 37 := ⟨Tryz.call37⟩
instance : FCall Tryz.prog 147 := ⟨Tryz.call147⟩
instance : FCall Tryz.prog 87 := ⟨Tryz.call87⟩
instance : FCall Tryz.prog 12 := ⟨Tryz.call12⟩
instance : FCall Tryz.prog 53 := ⟨Tryz.call53⟩
instance : FCall Tryz.prog 48 := ⟨Tryz.call48⟩
instance : FCall Tryz.prog 43 := ⟨Tryz.call43⟩
instance : FCall Tryz.prog 110 := ⟨Tryz.call110⟩
instance : FCall Tryz.prog 93 := ⟨Tryz.call93⟩
instance : FCall Tryz.prog 114 := ⟨Tryz.call114⟩
instance : FCall Tryz.prog 56 := ⟨Tryz.call56⟩
instance : FCall Tryz.prog 104 := ⟨Tryz.call104⟩
instance : FCall Tryz.prog 123 := ⟨Tryz.call123⟩
instance : FCall Tryz.prog 59 := ⟨Tryz.call59⟩
theorem mixed : Tryz.prog.follows .mixedOrders = true := by kernel_rfl
end Go.Proofs.YtncgndcepoicbaaGreat
