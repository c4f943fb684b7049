/-
  Running a program's function by computing: slices. It proves no statement by itself. It holds for every program.
-/
import Derived.Test.YtcnbecdpfildnaaEx4
import Derived.Great.BuildSlice
import Derived.Laws.MakeOwn
namespace Go.Proofs.Ytcnbecdpfildnaa
open Go.RowKit
noncomputable section
attribute [local irreducible] T.put T.set

/-- A value's cells, n times. -/
def repX (z : List V) : Nat → List V
  | 0 => []
  | n + 1 => z ++ repX z n
theorem repX_length (z : List V) : ∀ n, (repX z n).length = n * z.length
  | 0 => by simp [repX]
  | n + 1 => by simp [repX, repX_length z n, Nat.add_mul]; omega
theorem repX_get {z : List V} : ∀ {n i : Nat} {v : V}, (repX z n)[i]? = some v → z[i % z.length]? = some v
  | 0, i, v, h => by simp [repX] at h
  | n + 1, i, v, h => by
    simp only [repX] at h
    rw [List.getElem?_append] at h
    split at h
    · rename_i hlt; rwa [Nat.mod_eq_of_lt hlt]
    · rename_i hlt
      have := repX_get h
      rwa [← Nat.mod_eq_sub_mod (by omega)] at this

section
variable {c : Cx} {o : Oper} {K : Exit → St → Prop} {σ : St} {bs : Bs} {s : S} {Hp : H} {M F : List (Nat × Obj)} {d : Nat} {s2 : S} {H2 : H}

def makeSliceX (P : Program) (s : S) (Hp : H) (t : TypeId) (x y : Operand) (d : Nat) : SX := match evX s x, evX s y with
  | some (.int _ (.ofNat l)), some (.int _ (.ofNat cp)) => match P.underlying t with
    | some (.slice E) => match zeroX P E, P.info? E with
      | some z, some i => match Nat.beq z.length i.size, Nat.ble l cp, Nat.ble cp 100000, Nat.ble i.bytes 100000 with
        | true, true, true, true => some (s.set d (.sl Hp.n 0 l i.size (Nat.beq l cp)), Hp.new (.cells (T.row .e (repX z cp) 0) E))
        | _, _, _, _ => none
      | _, _ => none
    | _ => none
  | _, _ => none
theorem makeSliceX_ok {t : TypeId} {x y : Operand} (ho : o.op = .makeSlice t x y) (hdst : o.dst = some d) (hd : Nat.blt d c.N = true) (hcov : Cov bs s Hp M F σ) (hc : makeSliceX c.P s Hp t x y d = some (s2, H2)) : OW c o (Post bs Hp M F s2 H2) K σ := by
  generalize hx : evX s x = e1 at hc
  generalize hy : evX s y = e2 at hc
  unfold makeSliceX at hc
  rw [hx, hy] at hc
  split at hc
  · rename_i kl l kc cp
    split at hc
    · rename_i E hu
      split at hc
      · rename_i z i hz hi
        split at hc
        · rename_i c1 c2 c3 c4
          cases hc
          have d1 := Nat.eq_of_beq_eq_true c1
          have d2 : l ≤ cp := Nat.le_of_ble_eq_true c2
          have d3 : cp ≤ 100000 := Nat.le_of_ble_eq_true c3
          have d4 : i.bytes ≤ 100000 := Nat.le_of_ble_eq_true c4
          obtain ⟨zv, i', h1, h2, h3, h4⟩ := zeroX_ok hz
          rw [hi] at h1; cases h1
          obtain ⟨_, h5, h6⟩ := evX_ok hcov.slots hx; cases h6
          obtain ⟨_, h7, h8⟩ := evX_ok hcov.slots hy; cases h8
          have hb : (i.bytes : Int) * (cp : Int) ≤ 281474976710656 := by
            have : i.bytes * cp ≤ 100000 * 100000 := Nat.mul_le_mul d4 d3
            omega
          refine OW_new (av := cp * i.size) (o' := .cells (madeCells zv.cells (cp * i.size)) E (0, 0)) (v' := fun b => .slice (some ⟨b, 0, none⟩) l cp) hcov hdst hd (by simp [ho]) (fun a w ha => ⟨w, ha.mem, ?_⟩) (fun b => ?_) (fun b => ?_)
          · have hr := run_make (P := c.P) w t E i zv hu hi h2 kl kc l cp (by omega) (by omega) hb (by omega)
            simp only [Int.toNat_natCast] at hr
            simp [execOp, ho, ha.ev h5, ha.ev h7, hr]
          · have hzr := h4 (bs ++ [(b, 0, cp * i.size)])
            have hzl := hzr.length
            simp only [Array.length_toList] at hzl
            refine ⟨_, rfl, by simp [size_madeCells], fun j v hj => ?_⟩
            rcases T.get_row hj with ⟨_, e⟩ | ⟨_, e⟩
            · simp only [Nat.sub_zero] at e
              have hlt := (List.getElem?_eq_some_iff.1 e).1
              rw [repX_length, d1] at hlt
              obtain ⟨v', f1, f2⟩ := hzr.get (repX_get e)
              refine ⟨hlt, v', ?_, f2⟩
              have hpos : 0 < zv.cells.size := by
                rw [← hzl, d1]
                rcases Nat.eq_zero_or_pos i.size with e0 | e0
                · rw [e0] at hlt; simp at hlt
                · exact e0
              have hm : j % zv.cells.size < zv.cells.size := Nat.mod_lt _ hpos
              rw [hzl] at f1
              simp only [Array.getElem?_toList] at f1
              simp only [Nat.zero_add, madeCells]
              rw [Array.getElem?_map, Array.getElem?_range, if_pos hlt]
              simp only [Option.map_some]
              rw [getElem!_pos zv.cells (j % zv.cells.size) hm]
              rw [Array.getElem?_eq_getElem hm] at f1
              exact f1
            · cases e
          · rw [hcov.mem.n]
            have hmax : cp ≤ maxLen := by simp only [maxLen]; omega
            exact .sl (fun e => (Nat.eq_of_beq_eq_true e).symm) (bs_last (bs := bs) (b, 0, cp * i.size)) d2 hmax (.inl (by simp)) (by simp)
        · cases hc
      · cases hc
    · cases hc
  · cases hc

def buildSliceX (P : Program) (s : S) (Hp : H) (t : TypeId) (n : Nat) (parts : List (Nat × Operand)) (d : Nat) : SX := match P.underlying t with
  | some (.slice E) => match zeroX P E, sizeX P E, evpX s parts with
    | some z, some sz, some ps => match Nat.beq z.length sz, Nat.ble (Nat.mul n sz) 16777216, Nat.ble 1 (Nat.mul n sz) with
      | true, true, true => match fillX (fun i => some (Nat.mul i sz, sz)) (Nat.mul n sz) (repX z n) ps with
        | some l => some (s.set d (.sl Hp.n 0 n sz true), Hp.new (.cells (T.row .e l 0) E))
        | none => none
      | true, _, false => match n, ps with
        | 0, [] => some (s.set d (.sl Hp.n 0 0 sz true), Hp.new (.cells .e E))
        | _, _ => none
      | _, _, _ => none
    | _, _, _ => none
  | _ => none

theorem rep_rel {z : List V} {zv : Array Value} (h : RVs bs z zv.toList) (n : Nat) (hz : n * z.length = 0 ∨ 0 < z.length) : RVs bs (repX z n) ((Array.range (n * z.length)).map (zv[· % zv.size]!)).toList := by
  have hl := h.length
  simp only [Array.length_toList] at hl
  have key : ∀ (l : List V) (l' : List Value), l.length = l'.length → (∀ (i : Nat) (v : V), l[i]? = some v → ∃ v', l'[i]? = some v' ∧ RV bs v v') → RVs bs l l' := by
    intro l
    induction l with
    | nil => intro l' h1 _; cases l' with
      | nil => exact .nil
      | cons _ _ => cases h1
    | cons v l ih =>
      intro l' h1 h2
      cases l' with
      | nil => cases h1
      | cons v' l' =>
        obtain ⟨u, e1, e2⟩ := h2 0 v rfl
        simp at e1; subst e1
        exact .cons e2 (ih l' (by simpa using h1) (fun i u hi => h2 (i + 1) u hi))
  refine key _ _ (by simp [repX_length]) (fun i v hi => ?_)
  have hlt := (List.getElem?_eq_some_iff.1 hi).1
  rw [repX_length] at hlt
  have hpos : 0 < z.length := by omega
  obtain ⟨v', f1, f2⟩ := h.get (repX_get hi)
  refine ⟨v', ?_, f2⟩
  have hm : i % zv.size < zv.size := Nat.mod_lt _ (by omega)
  rw [hl] at f1
  simp only [Array.getElem?_toList] at f1 ⊢
  rw [Array.getElem?_map, Array.getElem?_range, if_pos hlt]
  simp only [Option.map_some]
  rw [getElem!_pos zv (i % zv.size) hm]
  rw [Array.getElem?_eq_getElem hm] at f1
  exact f1

theorem fillX_length {pl : Nat → Option (Nat × Nat)} {N : Nat} : ∀ {parts : List (Nat × V)} {z l : List V}, fillX pl N z parts = some l → z.length = N → l.length = N
  | [], z, l, h, hz => by cases h; exact hz
  | (i, v) :: r, z, l, h, hz => by
    simp only [fillX] at h
    split at h
    · rename_i off n hpl
      split at h
      · rename_i h1 h2
        have h3 := Nat.eq_of_beq_eq_true h1
        have h4 : off + n ≤ N := Nat.le_of_ble_eq_true h2
        exact fillX_length h (by simp; omega)
      · cases h
    · cases h

theorem buildSliceX_ok {t n : Nat} {parts : Array (Nat × Operand)} (ho : o.op = .buildSlice t n parts) (hdst : o.dst = some d) (hd : Nat.blt d c.N = true) (hcov : Cov bs s Hp M F σ) (hc : buildSliceX c.P s Hp t n parts.toList d = some (s2, H2)) : OW c o (Post bs Hp M F s2 H2) K σ := by
  generalize hx : evpX s parts.toList = e1 at hc
  unfold buildSliceX at hc
  rw [hx] at hc
  split at hc
  · rename_i E hu
    split at hc
    · rename_i z sz ps hz hsz
      obtain ⟨zv, i, h1, h2, h3, h4⟩ := zeroX_ok hz
      have hszi : i.size = sz := by
        unfold sizeX at hsz; rw [h1] at hsz; simpa using hsz
      obtain ⟨ps', h5, h6⟩ := evpX_ok hcov.slots hx
      split at hc
      · rename_i c1 c2 c3
        split at hc
        · rename_i l hl
          cases hc
          have d1 := Nat.eq_of_beq_eq_true c1
          have d2 : n * sz ≤ 16777216 := Nat.le_of_ble_eq_true c2
          have d3 : 1 ≤ n * sz := Nat.le_of_ble_eq_true c3
          have hpos : 0 < sz := by
            rcases Nat.eq_zero_or_pos sz with e | e
            · rw [e] at d3; simp at d3
            · exact e
          have hrl : (repX z n).length = n * sz := by rw [repX_length, d1]
          have hcap : n ≤ maxLen := by
            have : n * 1 ≤ n * sz := Nat.mul_le_mul_left _ hpos
            simp only [maxLen]; omega
          have hrun : ∃ l', Instr.fill (fun i => some (i * sz, sz)) ((Array.range (n * sz)).map (zv.cells[· % zv.cells.size]!)) ps' = some l' ∧ RVs bs l l'.toList := by
            have hr := rep_rel (h4 bs) n (.inr (by omega))
            rw [d1] at hr
            obtain ⟨l', e1, e2⟩ := fillX_ok hl h6 hr hrl
            rw [Array.toArray_toList] at e1
            exact ⟨l', e1, e2⟩
          obtain ⟨l', e1, e2⟩ := hrun
          have hfl := fillX_length hl hrl
          have hll := e2.length
          simp only [Array.length_toList] at hll
          have hlen : l'.size = n * sz := by rw [← hll]; exact hfl
          refine OW_new (av := n * sz) (o' := .cells l' E (0, 0)) (v' := fun b => .slice (some ⟨b, 0, none⟩) n n) hcov hdst hd (by simp [ho]) (fun a w ha => ⟨w, ha.mem, ?_⟩) (fun b => ?_) (fun b => ?_)
          · have hb := run_buildSlice (P := c.P) w t E n (parts.map fun (i, x) => (i, a.eval x)) l' i zv hu h1 h2 (by rw [hszi]; omega) (by rw [hszi]; omega) (by
              rw [hszi, Array.toList_map, evp_map (fun x u hu => ha.ev hu) h5]; exact e1)
            simp [execOp, ho, hb]
          · have := RO_row (b := b) (E := E) (extra := []) (n := n * sz) (e2.mono [(b, 0, n * sz)]) (by omega) (by simp; omega)
            simpa using this
          · rw [hcov.mem.n]
            exact .sl (fun _ => rfl) (bs_last (bs := bs) (b, 0, n * sz)) (Nat.le_refl _) hcap (.inl (by simp)) (by simp)
        · cases hc
      · rename_i c1 _ c3
        split at hc
        · rename_i hps
          cases hc
          have h6' : ps' = [] := h6
          subst h6'
          have hparts : parts = #[] := by
            apply Array.ext'
            cases hq : parts.toList with
            | nil => rfl
            | cons q r =>
              rw [hq] at h5
              obtain ⟨q1, q2⟩ := q
              simp only [evp] at h5
              split at h5 <;> cases h5
          subst hparts
          refine OW_new (av := 0) (o' := .cells #[] E (0, 0)) (v' := fun b => .slice (some ⟨b, 0, none⟩) 0 0) hcov hdst hd (by simp [ho]) (fun a w ha => ⟨w, ha.mem, ?_⟩) (fun b => ?_) (fun b => ?_)
          · have hsz2 := (sizeX_ok hsz).h
            simp [execOp, ho, Instr.buildSlice, run_underlying hu, hsz2, Instr.fill, newRow]
            rw [Array.eq_empty_of_size_eq_zero (xs := Array.map (fun _ => (default : Value)) (Array.range 0)) (by simp)]
          · exact ⟨_, rfl, by simp, fun j v hj => by cases hj⟩
          · rw [hcov.mem.n]
            exact .sl (fun _ => rfl) (bs_last (bs := bs) (b, 0, 0)) (Nat.le_refl _) (by simp [maxLen]) (.inl (by simp)) (by simp)
        · cases hc
      · cases hc
    · cases hc
  · cases hc
end
end
end Go.Proofs.Ytcnbecdpfildnaa
