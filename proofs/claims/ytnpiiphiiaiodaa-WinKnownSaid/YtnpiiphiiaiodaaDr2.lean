/-
  A region that draws the order of its operations, again: what comes ahead of all that turn memory may read all of it. It proves no statement by itself. It holds for every program.
-/
import Derived.Test.YtnpiiphiiaiodaaGo
namespace Go.Proofs.Ytnpiiphiiaiodaa
open Go.RowKit

section
variable {c : Cx} {ops : Array Oper}

/-- None of these has been done. -/
def Clean (ms : List Nat) (listed : Array Bool) : Prop := ∀ j ∈ ms, listed.getD j false = false

theorem Clean.back {ms : List Nat} {listed : Array Bool} {i : Nat} (h : Clean ms (listed.setIfInBounds i true)) : Clean ms listed := fun j hj => by
  have := h j hj
  by_cases e : i = j
  · subst e
    rcases Nat.lt_or_ge i listed.size with h' | h'
    · simp [h'] at this
    · simp [Array.getElem?_eq_none h']
  · simpa [Array.getElem?_setIfInBounds_ne e] using this
theorem Clean.set {ms : List Nat} {listed : Array Bool} {i : Nat} (h : Clean ms listed) (hi : i ∉ ms) : Clean ms (listed.setIfInBounds i true) := fun j hj => by
  have hne : i ≠ j := fun e => hi (e ▸ hj)
  have := h j hj
  simpa [Array.getElem?_setIfInBounds_ne hne] using this

def AnyK (c : Cx) (ops : Array Oper) (K : Exit → St → Prop) (Ls L0 : List (Nat × Obj)) (m : Nat) (ms : List Nat) : Nat → Array Bool → Act → World → Prop
  | 0, listed, a, w => Region.ready .any ops listed = [] ∧ lift c K .normal a w
  | fuel + 1, listed, a, w =>
    (Region.ready .any ops listed = [] → lift c K .normal a w) ∧
    ∀ i ∈ Region.ready .any ops listed, wpOpIn (Fw c.r) c.n c.P ops (lift c K) i (fun a' w' => ((i < m → Mem c.g Ls w') ∧ (Clean ms (listed.setIfInBounds i true) → Mem c.g L0 w')) ∧ AnyK c ops K Ls L0 m ms fuel (listed.setIfInBounds i true) a' w') a w

theorem AnyK.any {K : Exit → St → Prop} {Ls L0 : List (Nat × Obj)} {m : Nat} {ms : List Nat} : ∀ (fuel : Nat) (listed : Array Bool) (a : Act) (w : World), AnyK c ops K Ls L0 m ms fuel listed a w → wpAnyIn (Fw c.r) c.n c.P .any ops (lift c K) fuel listed a w
  | 0, _, _, _, h => h
  | fuel + 1, _, _, _, h => ⟨h.1, fun i hi => wpOpIn_mono (fun a' w' h' => AnyK.any fuel _ a' w' h'.2) (h.2 i hi)⟩

/-- Number i comes ahead of all of these. -/
def aheadOk (ops : Array Oper) (ms : List Nat) (i : Nat) : Bool := ms.all fun j => match ops[j]? with
  | some o => o.after.any fun e => Region.binds .any e && e.on == i
  | none => true
theorem aheadOk_spec {ms : List Nat} {i : Nat} (h : aheadOk ops ms i = true) {j : Nat} {o : Oper} (hj : ops[j]? = some o) (hm : j ∈ ms) : ∃ e ∈ o.after, Region.binds .any e = true ∧ e.on = i := by
  have h1 := List.all_eq_true.1 h j hm
  simp only [hj] at h1
  rw [← Array.any_toList, List.any_eq_true] at h1
  obtain ⟨e, he, h2⟩ := h1
  simp only [Bool.and_eq_true, beq_iff_eq] at h2
  exact ⟨e, by simpa using he, h2.1, h2.2⟩

theorem ready_un {listed : Array Bool} {i : Nat} (hr : i ∈ Region.ready .any ops listed) {o : Oper} {e : Edge} (he : e ∈ o.after) (hb : Region.binds .any e = true) (heq : e.on = i) (hall : ∀ e ∈ o.after, Region.binds .any e = true → listed.getD e.on false = true) : False := by
  have h1 := hall e he hb
  have h0 := (mem_ready.1 hr).1
  rw [heq] at h1
  rcases Nat.lt_or_ge i listed.size with h' | h'
  · simp [h'] at h0 h1; rw [h0] at h1; cases h1
  · simp [Array.getElem?_eq_none h'] at h1

/-- A calm one may be done first: it reads X, which is what is left alone, or, where it comes ahead of all that turn memory, all there is. -/
theorem AnyK.first {K : Exit → St → Prop} {Ls L0 X : List (Nat × Obj)} {m : Nat} {ms : List Nat} {i : Nat} {oi : Oper} {v : Value} (hi : ops[i]? = some oi) (hsel : ∀ (j : Nat) (o : Oper) cs b, ops[j]? = some o → o.op ≠ .select cs b) (him : i < m) (hlate : lateOk ops m = true) (hims : i ∉ ms)
    (hX : X = Ls ∨ X = L0 ∧ aheadOk ops ms i = true) (hsub : ∀ w, Mem c.g L0 w → Mem c.g Ls w) :
    ∀ (fuel : Nat) (listed : Array Bool) (a : Act) (w : World),
      (∀ j oj, ops[j]? = some oj → j ≠ i → listed.getD j true = false → (∀ e ∈ oj.after, Region.binds .any e = true → e.on ≠ i) → oi.apart ops oj = true) →
      i ∈ Region.ready .any ops listed → Calm c ops X oi v a → Mem c.g Ls w → (X = Ls ∨ Clean ms listed) → (Clean ms listed → Mem c.g L0 w) →
      AnyK c ops K Ls L0 m ms fuel (listed.setIfInBounds i true) (a.put oi.dst v) w → AnyK c ops K Ls L0 m ms (fuel + 1) listed a w := by
  intro fuel
  have memX : ∀ {listed : Array Bool} {w : World}, Mem c.g Ls w → (X = Ls ∨ Clean ms listed) → (Clean ms listed → Mem c.g L0 w) → Mem c.g X w := fun {listed w} hS hcl hC => by
    rcases hX with rfl | ⟨rfl, _⟩
    · exact hS
    · rcases hcl with rfl | hcl
      · exact hS
      · exact hC hcl
  induction fuel with
  | zero =>
    intro listed a w _ hr hy hS hcl hC H
    refine ⟨fun h => (by rw [h] at hr; cases hr), fun j hj => ?_⟩
    by_cases hji : j = i
    · subst hji; exact hy.op hi (memX hS hcl hC) ⟨⟨fun _ => hS, fun h => hC h.back⟩, H⟩
    · have := ready_mono hj hji
      rw [H.1] at this
      cases this
  | succ fuel ih =>
    intro listed a w hfree hr hy hS hcl hC H
    refine ⟨fun h => (by rw [h] at hr; cases hr), fun j hj => ?_⟩
    by_cases hji : j = i
    · subst hji; exact hy.op hi (memX hS hcl hC) ⟨⟨fun _ => hS, fun h => hC h.back⟩, H⟩
    · have h1 := H.2 j (ready_mono hj hji)
      obtain ⟨hjun, oj, hoj, hall⟩ := mem_ready.1 hj
      have hnot : ∀ e ∈ oj.after, Region.binds .any e = true → e.on ≠ i := fun e he hb heq => ready_un hr he hb heq hall
      have hjm : j < m := by
        rcases Nat.lt_or_ge j m with h' | h'
        · exact h'
        · obtain ⟨e, he, hb, heq⟩ := lateOk_spec hlate hoj h' him
          exact absurd heq (hnot e he hb)
      have hcl' : X = Ls ∨ Clean ms (listed.setIfInBounds j true) := by
        rcases hX with h | ⟨_, hah⟩
        · exact .inl h
        · rcases hcl with h | hcl
          · exact .inl h
          · refine .inr (hcl.set fun hjms => ?_)
            obtain ⟨e, he, hb, heq⟩ := aheadOk_spec hah hoj hjms
            exact hnot e he hb heq
      have h2 := wpOpIn_calm hoj (hfree j oj hoj hji hjun hnot) (fun cs b => hsel i oi cs b hi) (fun cs b => hsel j oj cs b hoj) hy h1
      have hfree' : ∀ k ok, ops[k]? = some ok → k ≠ i → (listed.setIfInBounds j true).getD k true = false →
          (∀ e ∈ ok.after, Region.binds .any e = true → e.on ≠ i) → oi.apart ops ok = true := fun k ok hk hki hun hno => by
        refine hfree k ok hk hki ?_ hno
        by_cases hjk : j = k
        · subst hjk; exact hjun
        · rw [getD_set_ne true hjk] at hun; exact hun
      refine wpOpIn_mono (fun a' w' h3 => ?_) h2
      have hC' : Clean ms (listed.setIfInBounds j true) → Mem c.g L0 w' := fun h => h3.2.1.2 (by
        rw [Array.setIfInBounds_comm _ _ (Ne.symm hji)]; exact h.set hims)
      refine ⟨⟨h3.2.1.1, hC'⟩, ih (listed.setIfInBounds j true) a' w' hfree' (ready_mono hr (Ne.symm hji)) h3.1 (h3.2.1.1 hjm) hcl' hC' ?_⟩
      rw [Array.setIfInBounds_comm _ _ hji]
      exact h3.2.2

/-- Those of a plan that must be done where they stand. -/
def Plan.musts : Plan → List Nat
  | .done => []
  | .calm _ p => p.musts
  | .must i p => i :: p.musts
  | .either i p j q => i :: j :: (p.musts ++ q.musts)
/-- No calm one is among these. -/
def calmsOk (ms : List Nat) : Plan → Bool
  | .done => true
  | .calm i p => !ms.contains i && calmsOk ms p
  | .must _ p => calmsOk ms p
  | .either _ p _ q => calmsOk ms p && calmsOk ms q

/-- What is to be shown along a plan; fresh: nothing has turned memory. -/
def WS (c : Cx) (ops : Array Oper) (K : Exit → St → Prop) (Ls L0 : List (Nat × Obj)) (m : Nat) (ms : List Nat) : Bool → Plan → St → Prop
  | _, .done, σ => K .normal σ
  | fresh, .calm i p, σ => ∃ o v X, ops[i]? = some o ∧ dok c.N o.dst = true ∧ (X = Ls ∨ X = L0 ∧ aheadOk ops ms i = true ∧ fresh = true) ∧ (Qt c σ.s X o v ∧ o.guard = none ∨ ∃ j want og dg b, o.guard = some (j, want) ∧ ops[j]? = some og ∧ og.dst = some dg ∧ look σ.s dg = some b ∧
      ((b = .bool want ∧ Qt c σ.s X o v) ∨ ((b = .bool (!want) ∨ b = undef) ∧ v = undef ∧ ∀ cc, o.op ≠ .defer cc))) ∧ WS c ops K Ls L0 m ms fresh p (σ.put o.dst v)
  | _, .must i p, σ => Must c ops K Ls m i (fun σ' => WS c ops K Ls L0 m ms false p σ') σ
  | _, .either i p j q, σ => Must c ops K Ls m i (fun σ' => WS c ops K Ls L0 m ms false p σ') σ ∧ Must c ops K Ls m j (fun σ' => WS c ops K Ls L0 m ms false q σ') σ

theorem Must.stepK {K : Exit → St → Prop} {Ls L0 : List (Nat × Obj)} {m : Nat} {ms : List Nat} (hlate : lateOk ops m = true) (hn : (Ls.map Prod.fst).Nodup) {p : Plan} {fuel : Nat} {listed : Array Bool} {σ : St} {j : Nat} (hj : j ∈ Region.ready .any ops listed) (hjms : j ∈ ms)
    (ih : ∀ (σ : St), WS c ops K Ls L0 m ms false p σ → ∀ a w, Holds c.g c.N σ a w → (p.calms = true → Mem c.g Ls w) → (Clean ms (listed.setIfInBounds j true) → Mem c.g L0 w) → AnyK c ops K Ls L0 m ms fuel (listed.setIfInBounds j true) a w)
    (hp : planOk ops m p fuel (listed.setIfInBounds j true) = true) (h : Must c ops K Ls m j (fun σ' => WS c ops K Ls L0 m ms false p σ') σ) (a : Act) (w : World) (ha : Holds c.g c.N σ a w) :
    wpOpIn (Fw c.r) c.n c.P ops (lift c K) j (fun a' w' => ((j < m → Mem c.g Ls w') ∧ (Clean ms (listed.setIfInBounds j true) → Mem c.g L0 w')) ∧ AnyK c ops K Ls L0 m ms fuel (listed.setIfInBounds j true) a' w') a w := by
  have hnc : ¬ Clean ms (listed.setIfInBounds j true) := fun h => by
    have h1 := h j hjms
    obtain ⟨hun, o, ho, _⟩ := mem_ready.1 hj
    rcases Nat.lt_or_ge j listed.size with h' | h'
    · simp [h'] at h1
    · simp [Array.getElem?_eq_none h'] at hun
  obtain ⟨o, ho, hW⟩ := h
  have hgo : ∀ a' w' σ', Holds c.g c.N σ' a' w' → (j < m → ∀ q ∈ Ls, q ∈ σ'.L) → WS c ops K Ls L0 m ms false p σ' → ((j < m → Mem c.g Ls w') ∧ (Clean ms (listed.setIfInBounds j true) → Mem c.g L0 w')) ∧ AnyK c ops K Ls L0 m ms fuel (listed.setIfInBounds j true) a' w' := by
    intro a' w' σ' h1 h2 h3
    have hmem : j < m → Mem c.g Ls w' := fun hjm => h1.mem.sub hn (h2 hjm)
    refine ⟨⟨hmem, fun h => absurd h hnc⟩, ih σ' h3 a' w' h1 (fun hx => ?_) (fun h => absurd h hnc)⟩
    rcases Nat.lt_or_ge j m with hjm | hjm
    · exact hmem hjm
    · exfalso
      have hall : ∀ k, k < m → (listed.setIfInBounds j true).getD k false = true := fun k hk => by
        obtain ⟨_, oj, hoj, hall⟩ := mem_ready.1 hj
        obtain ⟨e, he, hb, heq⟩ := lateOk_spec hlate hoj hjm hk
        exact getD_set_true (heq ▸ hall e he hb)
      exact planOk_late p fuel _ hp hall hx
  unfold wpOpIn
  simp only [ho]
  rcases hW with ⟨hg, hW⟩ | ⟨⟨jj, want, og, dg, b, hg, hj, hdg, hb, hcase⟩, hd, h2, h3⟩
  · have hw : Region.wanted o (yielded ops a.tmps) = true := by
      rcases hg with hg | ⟨jj, want, og, dg, hg, hj, hdg, hb⟩
      · simp [Region.wanted, hg]
      · rw [wanted_yes ha hg hj hdg hb]; simp
    simp only [hw, if_true]
    exact Oper.wpIn_mono (fun a' w' ⟨σ', h1, h2, h3⟩ => hgo a' w' σ' h1 h2 h3) (hW a w ha)
  · have hw : Region.wanted o (yielded ops a.tmps) = false := by
      rcases hcase with rfl | rfl
      · rw [wanted_yes ha hg hj hdg hb]; cases want <;> rfl
      · exact wanted_undef ha hg hj hdg hb
    simp only [hw, Bool.false_eq_true, if_false]
    exact ⟨fun _ _ => trivial, hgo _ _ _ (ha.put hd undef) (by cases o.dst <;> exact h2) h3⟩

theorem WS_any {K : Exit → St → Prop} {Ls L0 : List (Nat × Obj)} {m : Nat} {ms : List Nat} (hs : Region.noSelect ops = true) (hlate : lateOk ops m = true) (hn : (Ls.map Prod.fst).Nodup) (hsub : ∀ w, Mem c.g L0 w → Mem c.g Ls w) :
    ∀ (p : Plan) (fresh : Bool) (fuel : Nat) (listed : Array Bool) (σ : St), (∀ j ∈ p.musts, j ∈ ms) → calmsOk ms p = true → (fresh = true → Clean ms listed) → planOk ops m p fuel listed = true → WS c ops K Ls L0 m ms fresh p σ → ∀ a w, Holds c.g c.N σ a w → (p.calms = true → Mem c.g Ls w) → (Clean ms listed → Mem c.g L0 w) → AnyK c ops K Ls L0 m ms fuel listed a w := by
  intro p
  induction p with
  | done =>
    intro fresh fuel listed σ _ _ _ hp h a w ha _ _
    simp only [planOk, Bool.and_eq_true, List.isEmpty_iff] at hp
    obtain ⟨hp, hf⟩ := hp
    obtain rfl := Nat.eq_of_beq_eq_true hf
    exact ⟨hp, σ, ha, h⟩
  | calm i p ih =>
    intro fresh fuel listed σ hms hcm hfr hp h a w ha hm hC
    cases fuel with
    | zero => cases hp
    | succ fuel =>
      simp only [planOk, Bool.and_eq_true, Nat.blt_eq] at hp
      obtain ⟨⟨⟨him, hf⟩, hr⟩, hp⟩ := hp
      simp only [calmsOk, Bool.and_eq_true, Bool.not_eq_true'] at hcm
      have hims : i ∉ ms := fun hx => by
        have := List.contains_iff_mem.2 hx
        rw [hcm.1] at this; cases this
      obtain ⟨o, v, X, ho, hd, hX, hq, hrest⟩ := h
      have hmem : Mem c.g Ls w := hm rfl
      have hcalm : Calm c ops X o v a := by
        rcases hq with ⟨hq, hg⟩ | ⟨j, want, og, dg, b, hg, hj, hdg, hb, hcase⟩
        · exact ⟨hq.1, .inl ⟨by simp [Region.wanted, hg], fun w hw => hq.2 a.eval (fun x u hu => ha.ev hu) w hw⟩⟩
        · have hy : ∀ b', b = .bool b' → Region.wanted o (yielded ops a.tmps) = (b' == want) := fun b' e => by
            subst e; exact wanted_yes ha hg hj hdg hb
          rcases hcase with ⟨hb', hq⟩ | ⟨hb', rfl, hnd⟩
          · exact ⟨hq.1, .inl ⟨by rw [hy _ hb']; simp, fun w hw => hq.2 a.eval (fun x u hu => ha.ev hu) w hw⟩⟩
          · refine ⟨hnd, .inr ⟨?_, rfl⟩⟩
            rcases hb' with hb' | hb'
            · rw [hy _ hb']; cases want <;> rfl
            · subst hb'; exact wanted_undef ha hg hj hdg hb
      refine AnyK.first (X := X) ho (Region.noSelect_spec hs) him hlate hims (hX.imp id fun h => ⟨h.1, h.2.1⟩) hsub fuel listed a w (Region.free_spec ho hf) (by simpa using hr) hcalm hmem (hX.imp id fun h => hfr h.2.2) hC
        (ih fresh fuel _ _ hms hcm.2 (fun h => (hfr h).set hims) hp hrest _ w (ha.put hd v) (fun _ => hmem) (fun h => hC h.back))
  | must i p ih =>
    intro fresh fuel listed σ hms hcm hfr hp h a w ha hm hC
    cases fuel with
    | zero => cases hp
    | succ fuel =>
      simp only [planOk, Bool.and_eq_true, beq_iff_eq] at hp
      obtain ⟨hr, hp⟩ := hp
      refine ⟨fun h0 => (by rw [hr] at h0; cases h0), fun j hj => ?_⟩
      have hj' := hj
      rw [hr] at hj
      obtain rfl := List.mem_singleton.1 hj
      exact Must.stepK hlate hn hj' (hms j List.mem_cons_self) (fun σ' h' a' w' ha' hm' hC' => ih false fuel _ σ' (fun k hk => hms k (List.mem_cons_of_mem _ hk)) hcm (fun h => by cases h) hp h' a' w' ha' hm' hC') hp h a w ha
  | either i p j q ihp ihq =>
    intro fresh fuel listed σ hms hcm hfr hp h a w ha hm hC
    cases fuel with
    | zero => cases hp
    | succ fuel =>
      simp only [planOk, Bool.and_eq_true, beq_iff_eq] at hp
      obtain ⟨⟨hr, hp⟩, hq⟩ := hp
      simp only [calmsOk, Bool.and_eq_true] at hcm
      refine ⟨fun h0 => (by rw [hr] at h0; cases h0), fun k hk => ?_⟩
      have hk' := hk
      rw [hr] at hk
      rcases List.mem_cons.1 hk with rfl | hk
      · exact Must.stepK hlate hn hk' (hms k List.mem_cons_self) (fun σ' h' a' w' ha' hm' hC' => ihp false fuel _ σ' (fun x hx => hms x (by simp [Plan.musts, hx])) hcm.1 (fun h => by cases h) hp h' a' w' ha' hm' hC') hp h.1 a w ha
      · obtain rfl := List.mem_singleton.1 hk
        exact Must.stepK hlate hn hk' (hms k (by simp [Plan.musts])) (fun σ' h' a' w' ha' hm' hC' => ihq false fuel _ σ' (fun x hx => hms x (by simp [Plan.musts, hx])) hcm.2 (fun h => by cases h) hq h' a' w' ha' hm' hC') hq h.2 a w ha

theorem WC_drawK {K : Exit → St → Prop} {σ : St} {id : Nat} (Ls : List (Nat × Obj)) (m : Nat) (p : Plan) (hm : c.P.follows .mixedOrders = true)
    (hok : (Region.noSelect ops && lateOk ops m && planOk ops m p ops.size (Array.replicate ops.size false)) = true) (hcm : calmsOk p.musts p = true) (hsub : Ls.Sublist σ.L) (h : WS c ops K Ls σ.L m p.musts true p σ) : WC c (.region id ops true) K σ := fun a w ha => by
  simp only [Bool.and_eq_true] at hok
  have ha' : Holds c.g c.N σ a { w with drawn := w.drawn + 1 } := ha.mem' ha.mem.drew
  exact wpIn_region_any hm (AnyK.any _ _ _ _ (WS_any hok.1.1 hok.1.2 (ha.mem.nodup.sublist (hsub.map _)) (fun w hw => hw.sublist hsub) p true _ _ σ (fun _ h => h) hcm (fun _ j _ => by
    simp [Array.getElem?_replicate]; split <;> rfl) hok.2 h a _ ha' (fun _ => ha'.mem.sublist hsub) (fun _ => ha'.mem)))
end
end Go.Proofs.Ytnpiiphiiaiodaa
