/-
  A part of what the last of these texts needs; by itself it proves no statement.
-/
import Derived.LoopNIn
import Derived.ProofKit
import Derived.Deep.Slices
import Derived.OpenShut
import Derived.ChangeSame
import Derived.ChangeVars
import Derived.JoinedOf
import Derived.LaidLaws
import Derived.LaidHandle
import Derived.Stop.Joined
import Derived.Test.YtakedlockchpcaaGreatDoorKG5
namespace Go.Proofs.YtakedlockchpcaaGreatDoor
open Go.RowKit
attribute [local irreducible] Fn WC WL WR OW Qt YieldFn QW FnP FnD FnE
theorem ok_one {k : Fk} {v : Value} (h : k.ok v) : v.oneCell' = true := by
  cases k with
  | ww => obtain ⟨x, rfl, _⟩ := h; rfl
  | nn => obtain ⟨x, rfl, _⟩ := h; rfl
  | kk => obtain ⟨x, rfl, _⟩ := h; rfl
  | tt => obtain ⟨x, rfl⟩ := h; rfl
  | bb => obtain ⟨x, rfl⟩ := h; rfl
theorem oks_one : ∀ {fs : List Fk} {vs : List Value}, Oks fs vs → ∀ v ∈ vs, v.oneCell' = true
  | [], [], _, v, hv => by cases hv
  | _ :: _, _ :: _, h, v, hv => by
    rcases List.mem_cons.1 hv with rfl | hv
    · exact ok_one h.1
    · exact oks_one h.2 v hv
  | [], _ :: _, h, _, _ => h.elim
  | _ :: _, [], h, _, _ => h.elim
theorem lies_whole {cs : Array Value} {vs : List Value} (hl : Lies cs 0 vs) (hz : cs.size = vs.length) : cs = vs.toArray := by
  apply Array.ext_getElem?
  intro j
  by_cases h : j < vs.length
  · have := hl j _ (List.getElem?_eq_getElem h)
    rw [Nat.zero_add] at this
    rw [this]; simp [h]
  · rw [Array.getElem?_eq_none (by omega), Array.getElem?_eq_none (by simp; omega)]
theorem MV.cells_len {m : MV} (h : m.Ok) (a : Option Addr) (cap : Nat) (a' : Option Addr) (cap' : Nat) : (m.cells a cap a' cap').length = 24 := by
  have l1 := h.rc.len
  have l2 := h.ch.len
  have l3 := h.ct.len
  have l4 := h.kh.len
  simp only [List.length_cons, List.length_nil] at l1 l2 l3 l4
  unfold MV.cells
  simp only [List.length_append, List.length_cons, List.length_nil]
  omega
theorem MV.all_one {m : MV} (h : m.Ok) {cs : Array Value} {a : Option Addr} {cap : Nat} {a' : Option Addr} {cap' : Nat} (hz : cs.size = 24) (hl : Lies cs 0 (m.cells a cap a' cap')) : (cs.toList.all fun v => v.oneCell') = true := by
  rw [lies_whole hl (by rw [MV.cells_len h]; exact hz), List.all_eq_true]
  intro v hv
  have hv : v ∈ m.cells a cap a' cap' := by simpa using hv
  unfold MV.cells at hv
  simp only [List.mem_append, List.mem_cons, List.not_mem_nil, or_false] at hv
  rcases hv with (rfl | rfl) | hv | (rfl | rfl) | (hv | rfl | hv) | hv | rfl
  · rfl
  · rfl
  · exact oks_one h.rc v hv
  · rfl
  · rfl
  · exact oks_one h.ch v hv
  · rfl
  · exact oks_one h.ct v hv
  · exact oks_one h.kh v hv
  · rfl
def MV.few (m : MV) (n n' : Nat) : MV := { m with bins := m.bins.take n, ents := m.ents.take n' }
theorem MV.few_ok {m : MV} (h : m.Ok) (n n' : Nat) : (m.few n n').Ok := ⟨h.kind, h.ver, h.rc, h.time, h.num, h.ch, fun vs hv => h.bins vs (List.mem_of_mem_take hv), h.ct, h.kh, fun vs hv => h.ents vs (List.mem_of_mem_take hv)⟩
theorem Elems.take {R : List (Nat × Obj)} {a : Option Addr} {n : Nat} {vss : List (List Value)} (h : Elems R a n vss) (k : Nat) : Elems R a n (vss.take k) := by
  rcases h with h | ⟨be, eo, ie, ec, EE, ef, h1, h2, h3⟩
  · left; rw [h]; simp
  · refine .inr ⟨be, eo, ie, ec, EE, ef, h1, h2, fun j vs hj => h3 j vs ?_⟩
    rw [List.getElem?_take] at hj
    split at hj
    · exact hj
    · cases hj
theorem Elems.cons {R : List (Nat × Obj)} {a : Option Addr} {n : Nat} {vss : List (List Value)} (p : Nat × Obj) (h : Elems R a n vss) : Elems (p :: R) a n vss := h.mem fun _ hq => List.mem_cons_of_mem _ hq
structure MsgAt (L : List (Nat × Obj)) (cs : Array Value) (m : MV) (a : Option Addr) (cap : Nat) (a' : Option Addr) (cap' : Nat) : Prop where
  ok : m.Ok
  size : cs.size = 24
  lies : Lies cs 0 (m.cells a cap a' cap')
  bins : Elems L a 1 m.bins
  ents : Elems L a' 10 m.ents
  c1 : m.bins.length ≤ cap
  c2 : m.ents.length ≤ cap'
  m1 : cap ≤ maxLen
  m2 : cap' ≤ maxLen
theorem MsgAt.cons {L : List (Nat × Obj)} {cs : Array Value} {m : MV} {a : Option Addr} {cap : Nat} {a' : Option Addr} {cap' : Nat} (p : Nat × Obj) (h : MsgAt L cs m a cap a' cap') : MsgAt (p :: L) cs m a cap a' cap' := ⟨h.ok, h.size, h.lies, h.bins.cons p, h.ents.cons p, h.c1, h.c2, h.m1, h.m2⟩
theorem min_take {α : Type} (l : List α) {n : Int} (h : 0 ≤ n) : (if n < ((l.length : Nat) : Int) then n else ((l.length : Nat) : Int)).toNat = (l.take n.toNat).length := by
  rw [List.length_take]; split <;> omega
theorem PMsg_at {L : List (Nat × Obj)} {v : Value} {bs : List UInt8} {cs : Array Value} {m : MV} {a : Option Addr} {cap : Nat} {a' : Option Addr} {cap' : Nat} (h : MsgAt L cs m a cap a' cap') (hb : ByAt L v bs) (hn : m.bins.length ≤ 1000000) (hn' : m.ents.length ≤ 100000) (hroom : bs.length ≤ 900000000) : Fn Tryz.prog 11 [v, .agg cs] L (fun r L' => LaidAt r L L' (bs ++ m.enc)) :=
  PMsg_fn hb h.size h.ok hn hn' h.lies h.bins h.ents hroom
theorem rMsg_at {L : List (Nat × Obj)} {cs : Array Value} {m : MV} {a : Option Addr} {cap : Nat} {a' : Option Addr} {cap' : Nat} (h : MsgAt L cs m a cap a' cap') (hn : m.bins.length ≤ 1000000) (hn' : m.ents.length ≤ 1000000) : Fn Tryz.prog 12 [.agg cs] L (fun r L' => r = .string (bstr m.enc) ∧ L' = L) :=
  rMsg_fn h.size h.ok hn hn' h.lies h.bins h.ents
theorem MV.enc_len {m : MV} (hm : m.Ok) (hn : m.bins.length ≤ 100000) (hn' : m.ents.length ≤ 100000) : m.enc.length ≤ 100000000 := by
  have f0 := Go.Proofs.YtakedlockchpcaaGreatDoor.enc_len (zz_lt hm.kind.1 hm.kind.2)
  have f1 := Go.Proofs.YtakedlockchpcaaGreatDoor.enc_len (zz_lt hm.ver.1 hm.ver.2)
  have f2 := Go.Proofs.YtakedlockchpcaaGreatDoor.enc_len (zz_lt hm.time.1 hm.time.2)
  have f3 := Go.Proofs.YtakedlockchpcaaGreatDoor.enc_len (zz_lt hm.num.1 hm.num.2)
  have e2 := encs_len hm.rc
  have h1 := encs_len hm.ch
  have h2 := encl_len hm.bins (by omega)
  have h3 := encs_len hm.ct
  have h4 := encs_len hm.kh
  have h5 := encl_len hm.ents (by omega)
  rw [show binF.length = 1 from rfl] at h2
  rw [show entryF.length = 10 from rfl] at h5
  simp only [List.length_cons, List.length_nil] at e2 h1 h3 h4
  have hb : m.body.length ≤ 50000000 := by
    unfold MV.body
    split
    · omega
    · split
      · omega
      · split
        · omega
        · split
          · unfold encCmd; rw [List.length_append, List.length_append]; omega
          · split
            · unfold encChunk; rw [List.length_append]; omega
            · simp
  unfold MV.enc
  rw [List.length_append, List.length_append]; omega
end Go.Proofs.YtakedlockchpcaaGreatDoor
namespace Go.Proofs.YtakedlockchpcaaGreatDoor
open Go.RowKit
theorem partN {P : Program} {t n : Nat} [ha : TAgg P t true] [hs : TSize P t n] {xs : Array Value} {off : Nat} (w : World) : (part t xs off).run P w = .ok (.agg (xs.extract off (off + n))) w := by
  simp [part, ha.h, hs.h]
section
variable {c : Cx} {s : List (Nat × Value)} {L : List (Nat × Obj)} {o : Oper}
end
end Go.Proofs.YtakedlockchpcaaGreatDoor
namespace Go.Proofs.YtakedlockchpcaaGreatDoor
open Go.RowKit
def WCn (c : Cx) (x : Code) (K : Exit → St → Prop) : Nat → St → Prop
  | 0, _ => False
  | m + 1, σ => WC c x (thenK (WCn c x K m) K) σ
theorem WCn.rounds {c : Cx} {x : Code} {K : Exit → St → Prop} : ∀ {m : Nat} {σ : St}, WCn c x K m σ → ∀ a w, Holds c.g c.N σ a w → Code.roundsIn (Fw c.r) c.n c.P x (lift c K) m a w
  | 0, _, h, _, _, _ => h.elim
  | m + 1, σ, h, a, w, ha => by
    rw [roundsIn_succ]
    refine Go.wpIn_mono ((show WC c x (thenK (WCn c x K m) K) σ from h) a w ha) fun e a' w' hl => ?_
    obtain ⟨σ', h1, h2⟩ := hl
    cases e with
    | normal => exact WCn.rounds (m := m) h2 a' w' h1
    | _ => exact ⟨σ', h1, h2⟩
theorem WC_unroll {c : Cx} {x : Code} {K : Exit → St → Prop} {σ : St} (m : Nat) (h : WCn c x K m σ) : WC c (.loop x) K σ := fun a w ha => wpIn_loop_rounds m (h.rounds a w ha)
theorem WCn_s {c : Cx} {x : Code} {K : Exit → St → Prop} {m : Nat} {σ : St} (h : WC c x (thenK (WCn c x K m) K) σ) : WCn c x K (m + 1) σ := h
def FilledA (n : Nat) : Array Value → List (Nat × Value) → Array Value → Prop
  | z, [], cs => cs = z
  | z, (i, v) :: r, cs => v.cells.size = n ∧ i * n + n ≤ z.size ∧ FilledA n (putR z (i * n) v.cells) r cs
theorem fill_of_FilledA {n : Nat} : ∀ {parts : List (Nat × Value)} {z cs : Array Value}, FilledA n z parts cs → Instr.fill (fun i => some (i * n, n)) z parts = some cs
  | [], z, cs, h => by cases h; rfl
  | (i, v) :: r, z, cs, ⟨h2, h3, h4⟩ => by
    simp only [Instr.fill]
    rw [if_neg (by simp [h2]; omega)]
    have hf := fold_put v.cells.toList 0 (i * n) z (by simp; omega)
    have he : (v.cells.zipIdx.foldl (fun (cs : Array Value) (p : Value × Nat) => cs.setIfInBounds (i * n + p.2) p.1) z) = putR z (i * n) v.cells := by
      rw [← Array.foldl_toList, Array.toList_zipIdx, hf]
      simp
    have hh := fill_of_FilledA h4
    rw [← he] at hh
    exact hh
class TBuildA (P : Program) (t : TypeId) (z : outParam (Array Value)) (n : outParam Nat) : Prop where
  h : ∀ parts, P.built t parts = Instr.fill (fun i => some (i * n, n)) z parts
theorem Qt_buildA {c : Cx} {s : List (Nat × Value)} {L : List (Nat × Obj)} {o : Oper} {t : TypeId} {z : Array Value} {n : Nat} [hb : TBuildA c.P t z n] {parts : Array (Nat × Operand)} {vs : List (Nat × Value)} {cs : Array Value} (ho : o.op = .build t parts) (hx : evp s parts.toList = some vs := by exact rfl) (hf : FilledA n z vs cs := by repeat (first | exact rfl | refine ⟨(by first | with_reducible assumption | rfl | assumption), (by first | exact Nat.le_of_ble_eq_true rfl | omega), ?_⟩)) : Qt c s L o (.agg cs) :=
  ⟨(fun cc => by simp [ho]), fun ρ hρ w _ => by
    have h1 := evp_map hρ hx
    have h2 := run_build (P := c.P) w t (parts.map fun (i, x) => (i, ρ x)) cs (by
      rw [hb.h, Array.toList_map, h1]
      have := fill_of_FilledA hf
      simpa using this)
    simp [execOp, ho, h2]⟩
section
variable {c : Cx} {s : List (Nat × Value)} {L : List (Nat × Obj)} {o : Oper}
theorem Qt_indexA {t len E n : Nat} [hu : TUnd c.P t (.array len E)] [hs : TSize c.P E n] [ha : TAgg c.P E true] {x y : Operand} {k : IntKind} {i : Int} {vs : Array Value} (ho : o.op = .index t x y) (hx : ev s x = some (.agg vs) := by exact rfl) (hy : ev s y = some (.int k i) := by exact rfl) (h0 : 0 ≤ i := by first | decide | with_reducible assumption | omega) (h1 : i < len := by first | decide | with_reducible assumption | omega) : Qt c s L o (.agg (vs.extract (i.toNat * n) (i.toNat * n + n))) :=
  Qt_of_run (by simp [ho]) (fun ρ hρ w _ => by
    have h := partN (P := c.P) (t := E) (n := n) (xs := vs) (off := i.toNat * n) w
    simp [execOp, ho, hρ x _ hx, hρ y _ hy, Instr.index, asIntOf, run_underlying hu.h, hs.h, h0, h1, h])
theorem Qt_ldX {t b off n : Nat} [TAgg c.P t true] [TSize c.P t n] {x : Operand} {cs vs : Array Value} {E : TypeId} {fr : Nat × Nat} (ho : o.op = .load t x) (hx : ev s x = some (.pointer (some ⟨b, off, none⟩)) := by exact rfl) (hi : ∃ i : Nat, L[i]? = some (b, .cells cs E fr) := by first | exact ⟨0, rfl⟩ | exact ⟨1, rfl⟩ | exact ⟨2, rfl⟩ | exact ⟨3, rfl⟩ | exact ⟨4, rfl⟩ | exact ⟨5, rfl⟩ | exact ⟨6, rfl⟩ | exact ⟨7, rfl⟩ | exact ⟨8, rfl⟩) (hv : cs.extract off (off + n) = vs := by with_reducible assumption) (hn : off + n ≤ cs.size := by exact Nat.le_of_ble_eq_true rfl) : Qt c s L o (.agg vs) := by
  obtain ⟨i, h⟩ := hi
  subst hv
  exact Qt_loadN ho hx i h hn
end
end Go.Proofs.YtakedlockchpcaaGreatDoor
namespace Go.Proofs.YtakedlockchpcaaGreatDoor
open Go.RowKit
attribute [local irreducible] Fn WC WL WR OW Qt YieldFn QW FnP FnD FnE
structure GV where
  life : Int
  chan : Int
  ack : Bool
  seq : Int
  room : Int
  m : MV
def GV.cells (g : GV) (a : Option Addr) (cap : Nat) (a' : Option Addr) (cap' : Nat) : List Value := [.int .i64 g.life, .int .i64 g.chan, .bool g.ack, .int .u64 g.seq, .int .i64 g.room] ++ g.m.cells a cap a' cap'
structure GV.Ok (g : GV) : Prop where
  life : i64r g.life
  chan : i64r g.chan
  s0 : 0 ≤ g.seq
  s1 : g.seq < 18446744073709551616
  room : i64r g.room
  m : g.m.Ok
structure GramAt (L : List (Nat × Obj)) (gs : Array Value) (g : GV) (a : Option Addr) (cap : Nat) (a' : Option Addr) (cap' : Nat) : Prop extends GV.Ok g where
  lit : gs = (g.cells a cap a' cap').toArray
  bins : Elems L a 1 g.m.bins
  ents : Elems L a' 10 g.m.ents
  c1 : g.m.bins.length ≤ cap
  c2 : g.m.ents.length ≤ cap'
  m1 : cap ≤ maxLen
  m2 : cap' ≤ maxLen
theorem GramAt.mem {L L' : List (Nat × Obj)} {gs : Array Value} {g : GV} {a : Option Addr} {cap : Nat} {a' : Option Addr} {cap' : Nat} (h : GramAt L gs g a cap a' cap') (hs : ∀ q ∈ L, q ∈ L') : GramAt L' gs g a cap a' cap' := ⟨h.toOk, h.lit, h.bins.mem hs, h.ents.mem hs, h.c1, h.c2, h.m1, h.m2⟩
theorem GramAt.cons {L : List (Nat × Obj)} {gs : Array Value} {g : GV} {a : Option Addr} {cap : Nat} {a' : Option Addr} {cap' : Nat} (p : Nat × Obj) (h : GramAt L gs g a cap a' cap') : GramAt (p :: L) gs g a cap a' cap' := h.mem fun _ hq => List.mem_cons_of_mem _ hq
theorem GramAt.msg {L : List (Nat × Obj)} {gs : Array Value} {g : GV} {a : Option Addr} {cap : Nat} {a' : Option Addr} {cap' : Nat} (h : GramAt L gs g a cap a' cap') : MsgAt L (g.m.cells a cap a' cap').toArray g.m a cap a' cap' := ⟨h.m, MV.cells_len h.m _ _ _ _, (fun j v h => by rw [Nat.zero_add, List.getElem?_toArray]; exact h), h.bins, h.ents, h.c1, h.c2, h.m1, h.m2⟩
theorem GramAt.one {L : List (Nat × Obj)} {gs : Array Value} {g : GV} {a : Option Addr} {cap : Nat} {a' : Option Addr} {cap' : Nat} (h : GramAt L gs g a cap a' cap') : (gs.toList.all fun v => v.oneCell') = true := by
  have h2 := MV.all_one h.m h.msg.size h.msg.lies
  rw [h.lit]
  show (([_, _, _, _, _] ++ g.m.cells a cap a' cap').all _) = true
  rw [List.all_append]
  have : ((g.m.cells a cap a' cap').all fun v => v.oneCell') = true := h2
  rw [this]; rfl
theorem GramAt.size {L : List (Nat × Obj)} {gs : Array Value} {g : GV} {a : Option Addr} {cap : Nat} {a' : Option Addr} {cap' : Nat} (h : GramAt L gs g a cap a' cap') : gs.size = 29 := by
  rw [h.lit]
  show ([_, _, _, _, _] ++ g.m.cells a cap a' cap').length = 29
  rw [List.length_append, MV.cells_len h.m]; rfl
def GV.few (g : GV) (n n' : Nat) : GV := { g with m := g.m.few n n' }
set_option maxHeartbeats 4000000 in
theorem few18_fn {L0 : List (Nat × Obj)} {gs : Array Value} {g : GV} {a : Option Addr} {cap : Nat} {a' : Option Addr} {cap' : Nat} (h : GramAt L0 gs g a cap a' cap') (L : List (Nat × Obj)) : Fn Tryz.prog 34 [.agg gs] L (fun v L' => ∃ gs', v = .agg gs' ∧ L' = L ∧ GramAt L0 gs' (g.few 10 70) a cap a' cap') := by
  have h1 := h.c1; have h2 := h.c2; have h3 := h.m1; have h4 := h.m2
  have hlit := h.lit
  have hone := h.one
  have hsz := h.size
  obtain ⟨life, chan, ack, seq, room, ⟨kind, ver, rc, time, num, ch, bins, ct, kh, ents⟩⟩ := g
  have hrc := h.m.rc; have hch := h.m.ch; have hct := h.m.ct; have hkh := h.m.kh
  have hbins := h.m.bins; have hents := h.m.ents
  have hki := h.m.kind; have hve := h.m.ver; have hti := h.m.time; have hnu := h.m.num
  dsimp only at hrc hch hct hkh hbins hents hki hve hti hnu
  have w0 := hrc
  obtain ⟨r0, us, rfl, _, w1⟩ := w0.split
  obtain ⟨r1, us, rfl, _, w2⟩ := w1.split
  obtain ⟨r2, us, rfl, _, w3⟩ := w2.split
  obtain ⟨r3, us, rfl, _, w4⟩ := w3.split
  obtain ⟨r4, us, rfl, _, w5⟩ := w4.split
  obtain ⟨r5, us, rfl, _, w6⟩ := w5.split
  obtain rfl := w6.nil
  have w0 := hch
  obtain ⟨c0, us, rfl, _, w1⟩ := w0.split
  obtain ⟨c1, us, rfl, _, w2⟩ := w1.split
  obtain rfl := w2.nil
  have w0 := hct
  obtain ⟨t0, us, rfl, _, w1⟩ := w0.split
  obtain ⟨t1, us, rfl, _, w2⟩ := w1.split
  obtain ⟨t2, us, rfl, _, w3⟩ := w2.split
  obtain ⟨t3, us, rfl, _, w4⟩ := w3.split
  obtain ⟨t4, us, rfl, _, w5⟩ := w4.split
  obtain ⟨t5, us, rfl, _, w6⟩ := w5.split
  obtain ⟨t6, us, rfl, _, w7⟩ := w6.split
  obtain rfl := w7.nil
  have w0 := hkh
  obtain ⟨k0, us, rfl, _, w1⟩ := w0.split
  obtain ⟨k1, us, rfl, _, w2⟩ := w1.split
  obtain ⟨k2, us, rfl, _, w3⟩ := w2.split
  obtain rfl := w3.nil
  have hlit' : gs = #[.int .i64 life, .int .i64 chan, .bool ack, .int .u64 seq, .int .i64 room, .int .i64 kind, .int .i64 ver, r0, r1, r2, r3, r4, r5, .int .i64 time, .int .i64 num, c0, c1, .slice a bins.length cap, t0, t1, t2, t3, t4, t5, t6, k0, k1, k2, .slice a' ents.length cap'] := hlit
  subst hlit'
  dsimp only at h1 h2
  have e1 := min_take bins (n := 10) (by omega)
  have e2 := min_take ents (n := 70) (by omega)
  have hG : ∀ gs', gs' = (({ life := life, chan := chan, ack := ack, seq := seq, room := room, m := ⟨kind, ver, [r0, r1, r2, r3, r4, r5], time, num, [c0, c1], bins.take 10, [t0, t1, t2, t3, t4, t5, t6], [k0, k1, k2], ents.take 70⟩ } : GV).cells a cap a' cap').toArray → GramAt L0 gs' (({ life := life, chan := chan, ack := ack, seq := seq, room := room, m := ⟨kind, ver, [r0, r1, r2, r3, r4, r5], time, num, [c0, c1], bins, [t0, t1, t2, t3, t4, t5, t6], [k0, k1, k2], ents⟩ } : GV).few 10 70) a cap a' cap' := fun gs' e =>
    ⟨⟨h.life, h.chan, h.s0, h.s1, h.room, MV.few_ok h.m 10 70⟩, e, h.bins.take 10, h.ents.take 70, by show (bins.take 10).length ≤ cap; rw [List.length_take]; omega, by show (ents.take 70).length ≤ cap'; rw [List.length_take]; omega, h3, h4⟩
  refine Fn_enter Tryz.func34 rfl Tryz.ntmps34 rfl fun g => ?_
  repeat (first | refine RQ ?_ | ((first | refine WL_Q ?_); (first | refine QW_of (Qt_indexA rfl) ?_)) | (refine RE ?_; try intro _) | refine RC ?_ | refine WC_regB 2 ?_)
  rw [e1]
  repeat (first | refine RQ ?_ | ((first | refine WL_Q ?_); (first | refine QW_of (Qt_indexA rfl) ?_)) | (refine RE ?_; try intro _) | refine RC ?_ | refine WC_regB 3 ?_)
  rw [e2]
  have hF := hG _ rfl
  have hone2 := hF.one
  have hsz2 := hF.size
  repeat (first | refine RQ ?_ | ((first | refine WL_Q ?_); (first | refine QW_of (Qt_indexA rfl) ?_)) | (refine RE ?_; try intro _) | refine RC ?_ | refine WC_region ?_)
  exact ⟨rfl, _, _, Res1 rfl (resV_cellN rfl 0 rfl hsz2), .cons _ (.cons _ (.refl _)), _, rfl, rfl, hF⟩
theorem em_eq {x n : Int} (h0 : 0 < n) (h1 : n ≤ 1000000) : (IntKind.i64.wrap (x.tmod n + n)).tmod n = x % n := by
  have l1 := Int.tmod_lt_of_pos x h0
  have l2 : -n < x.tmod n := by
    have := Int.tmod_lt_of_pos (-x) h0
    rw [Int.neg_tmod] at this; omega
  rw [wI64 (by omega) (by omega), Int.tmod_eq_emod_of_nonneg (by omega), Int.add_emod_right]
  have e : x = x.tmod n + n * x.tdiv n := (Int.tmod_add_mul_tdiv x n).symm
  conv => rhs; rw [e, Int.add_mul_emod_self_left]
def GV.draft (g : GV) (odd : Bool) : GV := if odd then g.few 10 70 else { g with life := g.life % 65536, chan := g.chan % 100, room := g.room % 17, m := { (g.m.few 10 70).few 8 64 with kind := g.m.kind % 5 } }
set_option maxHeartbeats 8000000 in
theorem drafted_fn {L0 : List (Nat × Obj)} {gs : Array Value} {g : GV} {odd : Bool} {a : Option Addr} {cap : Nat} {a' : Option Addr} {cap' : Nat} (h : GramAt L0 gs g a cap a' cap') (L : List (Nat × Obj)) : Fn Tryz.prog 35 [.agg (gs.push (.bool odd))] L (fun v L' => ∃ gs', v = .agg gs' ∧ L' = L ∧ GramAt L0 gs' (g.draft odd) a cap a' cap') := by
  have h1 := h.c1; have h2 := h.c2; have h3 := h.m1; have h4 := h.m2
  have hlit := h.lit
  have hsz := h.size
  have hone : ((gs.push (.bool odd)).toList.all fun v => v.oneCell') = true := by
    rw [Array.toList_push, List.all_append, h.one]; rfl
  have hsz2 : (gs.push (.bool odd)).size = 30 := by rw [Array.size_push, hsz]
  have h29 : 0 + 29 ≤ (gs.push (.bool odd)).size := by omega
  have hodd : (gs.push (.bool odd))[29]? = some (.bool odd) := by rw [← hsz]; simp
  have hext : (gs.push (.bool odd)).extract 0 (0 + 29) = gs := by
    rw [Nat.zero_add, ← hsz]; simp
  obtain ⟨life, chan, ack, seq, room, ⟨kind, ver, rc, time, num, ch, bins, ct, kh, ents⟩⟩ := g
  have hrc := h.m.rc; have hch := h.m.ch; have hct := h.m.ct; have hkh := h.m.kh
  have hbins := h.m.bins; have hents := h.m.ents
  have hki := h.m.kind; have hve := h.m.ver; have hti := h.m.time; have hnu := h.m.num
  dsimp only at hrc hch hct hkh hbins hents hki hve hti hnu
  have w0 := hrc
  obtain ⟨r0, us, rfl, _, w1⟩ := w0.split
  obtain ⟨r1, us, rfl, _, w2⟩ := w1.split
  obtain ⟨r2, us, rfl, _, w3⟩ := w2.split
  obtain ⟨r3, us, rfl, _, w4⟩ := w3.split
  obtain ⟨r4, us, rfl, _, w5⟩ := w4.split
  obtain ⟨r5, us, rfl, _, w6⟩ := w5.split
  obtain rfl := w6.nil
  have w0 := hch
  obtain ⟨c0, us, rfl, _, w1⟩ := w0.split
  obtain ⟨c1, us, rfl, _, w2⟩ := w1.split
  obtain rfl := w2.nil
  have w0 := hct
  obtain ⟨t0, us, rfl, _, w1⟩ := w0.split
  obtain ⟨t1, us, rfl, _, w2⟩ := w1.split
  obtain ⟨t2, us, rfl, _, w3⟩ := w2.split
  obtain ⟨t3, us, rfl, _, w4⟩ := w3.split
  obtain ⟨t4, us, rfl, _, w5⟩ := w4.split
  obtain ⟨t5, us, rfl, _, w6⟩ := w5.split
  obtain ⟨t6, us, rfl, _, w7⟩ := w6.split
  obtain rfl := w7.nil
  have w0 := hkh
  obtain ⟨k0, us, rfl, _, w1⟩ := w0.split
  obtain ⟨k1, us, rfl, _, w2⟩ := w1.split
  obtain ⟨k2, us, rfl, _, w3⟩ := w2.split
  obtain rfl := w3.nil
  dsimp only at h1 h2
  have hl := h.life; have hc := h.chan; have hr := h.room
  dsimp only at hl hc hr
  refine Fn_enter Tryz.func35 rfl Tryz.ntmps35 rfl fun g => ?_
  repeat (first | refine RQ ?_ | ((first | refine WL_Q ?_); (first | refine QW_of (Qt_indexA rfl) ?_)) | (refine RE ?_; try intro _) | refine RC ?_ | refine WC_region (id := 0) ?_ | refine WC_region (id := 1) ?_)
  rw [hext]
  repeat (first | refine RQ ?_ | ((first | refine WL_Q ?_); (first | refine QW_of (Qt_indexA rfl) ?_)) | (refine RE ?_; try intro _) | ((first | refine WL_op rfl ?_); (first | (refine OW_call rfl (hF := few18_fn h _) (hk := ?_); rintro _ _ ⟨gs2, rfl, rfl, hG2⟩))) | refine RC ?_ | refine WC_region (id := 0) ?_ | refine WC_region (id := 1) ?_)
  have q1 := hG2.one
  have q2 := hG2.size
  repeat (first | refine RQ ?_ | ((first | refine WL_Q ?_); (first | refine QW_of (Qt_indexA rfl) ?_)) | (refine RE ?_; try intro _) | ((first | refine WL_op rfl ?_); (first | (refine OW_call rfl (hF := few18_fn h _) (hk := ?_); rintro _ _ ⟨gs2, rfl, rfl, hG2⟩))) | refine RC ?_ | refine WC_region (id := 1) ?_ | refine WC_region (id := 2) ?_)
  by_cases ho : odd = true
  · subst ho
    repeat (first | refine RQ ?_ | ((first | refine WL_Q ?_); (first | refine QW_of (Qt_indexA rfl) ?_)) | (refine RE ?_; try intro _) | refine RC ?_ | refine WC_region (id := 2) ?_ | refine WC_region (id := 3) ?_)
    exact ⟨rfl, _, _, Res1 rfl (resV_cellN rfl 1 rfl q2), .cons _ (.cons _ (.cons _ (.refl _))), _, rfl, rfl, by unfold GV.draft; rw [if_pos rfl]; exact hG2⟩
  obtain rfl : odd = false := by simpa using ho
  have hlit2 : gs2 = #[.int .i64 life, .int .i64 chan, .bool ack, .int .u64 seq, .int .i64 room, .int .i64 kind, .int .i64 ver, r0, r1, r2, r3, r4, r5, .int .i64 time, .int .i64 num, c0, c1, .slice a (bins.take 10).length cap, t0, t1, t2, t3, t4, t5, t6, k0, k1, k2, .slice a' (ents.take 70).length cap'] := hG2.lit
  subst hlit2
  have e1 := min_take (bins.take 10) (n := 8) (by omega)
  have e2 := min_take (ents.take 70) (n := 64) (by omega)
  have hG : ∀ gs', gs' = (({ life := life % 65536, chan := chan % 100, ack := ack, seq := seq, room := room % 17, m := ⟨kind % 5, ver, [r0, r1, r2, r3, r4, r5], time, num, [c0, c1], (bins.take 10).take 8, [t0, t1, t2, t3, t4, t5, t6], [k0, k1, k2], (ents.take 70).take 64⟩ } : GV).cells a cap a' cap').toArray → GramAt L0 gs' (({ life := life, chan := chan, ack := ack, seq := seq, room := room, m := ⟨kind, ver, [r0, r1, r2, r3, r4, r5], time, num, [c0, c1], bins, [t0, t1, t2, t3, t4, t5, t6], [k0, k1, k2], ents⟩ } : GV).draft false) a cap a' cap' := fun gs' e =>
    ⟨⟨⟨by show _ ≤ life % 65536; omega, by show life % 65536 < _; omega⟩, ⟨by show _ ≤ chan % 100; omega, by show chan % 100 < _; omega⟩, h.s0, h.s1, ⟨by show _ ≤ room % 17; omega, by show room % 17 < _; omega⟩, (show MV.Ok _ from ⟨⟨by show _ ≤ kind % 5; omega, by show kind % 5 < _; omega⟩, h.m.ver, h.m.rc, h.m.time, h.m.num, h.m.ch, fun vs hv => h.m.bins vs (List.mem_of_mem_take (List.mem_of_mem_take hv)), h.m.ct, h.m.kh, fun vs hv => h.m.ents vs (List.mem_of_mem_take (List.mem_of_mem_take hv))⟩)⟩, e, (h.bins.take 10).take 8, (h.ents.take 70).take 64, by show ((bins.take 10).take 8).length ≤ cap; rw [List.length_take, List.length_take]; omega, by show ((ents.take 70).take 64).length ≤ cap'; rw [List.length_take, List.length_take]; omega, h3, h4⟩
  repeat (first | refine RQ ?_ | ((first | refine WL_Q ?_); (first | refine QW_of (Qt_indexA rfl) ?_)) | (refine RE ?_; try intro _) | refine RC ?_ | refine WC_region (id := 2) ?_ | refine WC_region (id := 4) ?_ | refine WC_region (id := 5) ?_ | refine WC_region (id := 6) ?_ | refine WC_region (id := 7) ?_)
  rw [em_eq (x := life) (by omega) (by omega), em_eq (x := chan) (by omega) (by omega), em_eq (x := room) (by omega) (by omega), em_eq (x := kind) (by omega) (by omega)]
  have c1 : (bins.take 10).length ≤ cap := by rw [List.length_take]; omega
  have c2 : (ents.take 70).length ≤ cap' := by rw [List.length_take]; omega
  repeat (first | refine RQ ?_ | ((first | refine WL_Q ?_); (first | refine QW_of (Qt_indexA rfl) ?_)) | (refine RE ?_; try intro _) | refine RC ?_ | refine WC_region (id := 8) ?_)
  rw [e1]
  repeat (first | refine RQ ?_ | ((first | refine WL_Q ?_); (first | refine QW_of (Qt_indexA rfl) ?_)) | (refine RE ?_; try intro _) | refine RC ?_ | refine WC_region (id := 8) ?_ | refine WC_region (id := 9) ?_)
  rw [e2]
  have hF := hG _ rfl
  have hone2 := hF.one
  have hsz3 := hF.size
  repeat (first | refine RQ ?_ | ((first | refine WL_Q ?_); (first | refine QW_of (Qt_indexA rfl) ?_)) | (refine RE ?_; try intro _) | ((first | refine WL_op rfl ?_); (first | (refine OW_call rfl (hF := few18_fn h _) (hk := ?_); rintro _ _ ⟨gs2, rfl, rfl, hG2⟩))) | refine RC ?_ | refine WC_region ?_)
  exact ⟨rfl, _, _, Res1 rfl (resV_cellN rfl 1 rfl hsz3), .cons _ (.cons _ (.cons _ (.refl _))), _, rfl, rfl, hF⟩
end Go.Proofs.YtakedlockchpcaaGreatDoor
namespace Go.Proofs.YtakedlockchpcaaGreatDoor
open Go.RowKit
attribute [local irreducible] Fn WC WL WR OW Qt YieldFn QW FnP FnD FnE
instance : TBuildA Tryz.prog 157 zc157 3 := ⟨fun _ => by kernel_rfl⟩
def inB (n most : Int) : Bool := decide (0 ≤ n) && decide (n ≤ most)
def GV.head (g : GV) : List UInt8 := ((enc g.life.toNat ++ enc g.chan.toNat) ++ encB g.ack) ++ enc g.seq.toNat
def GV.many (g : GV) : Bool := (g.m.kind == 3 && decide (8 < g.m.bins.length)) || (g.m.kind == 4 && decide (64 < g.m.ents.length))
def GV.put (g : GV) : List UInt8 × Nat :=
  if inB g.life 65535 = false then ([], 2) else if inB g.chan 99 = false then ([], 2) else if (g.ack && !inB g.room 16) = true then ([], 2)
  else if g.ack = true then (g.head ++ enc g.room.toNat, 0) else if inB g.m.kind 4 = false then ([], 6) else if g.many = true then ([], 4) else (g.head ++ g.m.enc, 0)
theorem right_fn {n most : Int} {c : Bool} {L : List (Nat × Obj)} : Fn Tryz.prog 87 [.agg #[.int .i64 n, .int .i64 most, .bool c]] L (fun v L' => v = .bool (!c || inB n most) ∧ L' = L) := by
  refine Fn_enter Tryz.func87 rfl Tryz.ntmps87 rfl fun g => ?_
  cases c
  · repeat (first | refine RQ ?_ | ((first | refine WL_Q ?_ | refine WL_Y ?_); (first | refine QW_of (Qt_indexA rfl) ?_ | refine QW_of (Qt_buildA rfl) ?_ | refine QW_of (Qt_ldX rfl) ?_)) | (refine RE ?_; try intro _) | refine RC ?_ | refine WC_region ?_)
    exact ⟨rfl, _, _, Res1 rfl (resV_tmp rfl), .cons _ (.refl _), rfl, rfl⟩
  · by_cases h : 0 ≤ n
    · have d : decide (n ≥ 0) = true := decide_eq_true h
      repeat (first | refine RQ ?_ | ((first | refine WL_Q ?_ | refine WL_Y ?_); (first | refine QW_of (Qt_indexA rfl) ?_ | refine QW_of (Qt_buildA rfl) ?_ | refine QW_of (Qt_ldX rfl) ?_)) | (refine RE ?_; try intro _) | refine RC ?_ | refine WC_region ?_)
      refine ⟨rfl, _, _, Res1 rfl (resV_tmp rfl), .cons _ (.refl _), ?_, rfl⟩
      simp [inB, h]
    · have d : decide (n ≥ 0) = false := decide_eq_false h
      repeat (first | refine RQ ?_ | ((first | refine WL_Q ?_ | refine WL_Y ?_); (first | refine QW_of (Qt_indexA rfl) ?_ | refine QW_of (Qt_buildA rfl) ?_ | refine QW_of (Qt_ldX rfl) ?_)) | (refine RE ?_; try intro _) | refine RC ?_ | refine WC_region ?_)
      refine ⟨rfl, _, _, Res1 rfl (resV_tmp rfl), .cons _ (.refl _), ?_, rfl⟩
      simp [inB, h]
theorem in18_fn {n most : Int} {L : List (Nat × Obj)} : Fn Tryz.prog 90 [.int .i64 n, .int .i64 most] L (fun v L' => v = .bool (inB n most) ∧ L' = L) := by
  refine Fn_enter Tryz.func90 rfl Tryz.ntmps90 rfl fun g => ?_
  by_cases h : 0 ≤ n
  · have d : decide (n ≥ 0) = true := decide_eq_true h
    repeat (first | refine RQ ?_ | ((first | refine WL_Q ?_ | refine WL_Y ?_); (first | refine QW_of (Qt_indexA rfl) ?_ | refine QW_of (Qt_buildA rfl) ?_ | refine QW_of (Qt_ldX rfl) ?_)) | refine RC ?_ | refine WC_region ?_)
    refine ⟨rfl, _, _, Res1 rfl (resV_tmp rfl), .refl _, ?_, rfl⟩
    simp [inB, h]
  · have d : decide (n ≥ 0) = false := decide_eq_false h
    repeat (first | refine RQ ?_ | ((first | refine WL_Q ?_ | refine WL_Y ?_); (first | refine QW_of (Qt_indexA rfl) ?_ | refine QW_of (Qt_buildA rfl) ?_ | refine QW_of (Qt_ldX rfl) ?_)) | refine RC ?_ | refine WC_region ?_)
    refine ⟨rfl, _, _, Res1 rfl (resV_tmp rfl), .refl _, ?_, rfl⟩
    simp [inB, h]
theorem enc_le {n : Nat} (h : n < 18446744073709551616) : (enc n).length ≤ 10 := Go.Proofs.YtakedlockchpcaaGreatDoor.enc_len h
set_option maxHeartbeats 16000000 in
set_option maxRecDepth 100000 in
theorem Put_fn {L : List (Nat × Obj)} {gs : Array Value} {g : GV} {a : Option Addr} {cap : Nat} {a' : Option Addr} {cap' : Nat} (h : GramAt L gs g a cap a' cap') (hb : g.m.bins.length ≤ 1000) (he : g.m.ents.length ≤ 1000) :
    Fn Tryz.prog 36 [.agg gs] L (fun v L' => v = .tuple #[.string (bstr g.put.1), .int .i64 (g.put.2 : Nat)] ∧ L' = L) := by
  have h1 := h.c1; have h2 := h.c2; have h3 := h.m1; have h4 := h.m2
  have hlit := h.lit
  have hone := h.one
  have hM := h.msg
  have hl := h.life; have hc := h.chan; have hr := h.room; have hs0 := h.s0; have hs1 := h.s1
  obtain ⟨life, chan, ack, seq, room, ⟨kind, ver, rc, time, num, ch, bins, ct, kh, ents⟩⟩ := g
  have hrc := h.m.rc; have hch := h.m.ch; have hct := h.m.ct; have hkh := h.m.kh
  have hbins := h.m.bins; have hents := h.m.ents
  have hki := h.m.kind; have hve := h.m.ver; have hti := h.m.time; have hnu := h.m.num
  dsimp only at hrc hch hct hkh hbins hents hki hve hti hnu
  have w0 := hrc
  obtain ⟨r0, us, rfl, _, w1⟩ := w0.split
  obtain ⟨r1, us, rfl, _, w2⟩ := w1.split
  obtain ⟨r2, us, rfl, _, w3⟩ := w2.split
  obtain ⟨r3, us, rfl, _, w4⟩ := w3.split
  obtain ⟨r4, us, rfl, _, w5⟩ := w4.split
  obtain ⟨r5, us, rfl, _, w6⟩ := w5.split
  obtain rfl := w6.nil
  have w0 := hch
  obtain ⟨c0, us, rfl, _, w1⟩ := w0.split
  obtain ⟨c1, us, rfl, _, w2⟩ := w1.split
  obtain rfl := w2.nil
  have w0 := hct
  obtain ⟨t0, us, rfl, _, w1⟩ := w0.split
  obtain ⟨t1, us, rfl, _, w2⟩ := w1.split
  obtain ⟨t2, us, rfl, _, w3⟩ := w2.split
  obtain ⟨t3, us, rfl, _, w4⟩ := w3.split
  obtain ⟨t4, us, rfl, _, w5⟩ := w4.split
  obtain ⟨t5, us, rfl, _, w6⟩ := w5.split
  obtain ⟨t6, us, rfl, _, w7⟩ := w6.split
  obtain rfl := w7.nil
  have w0 := hkh
  obtain ⟨k0, us, rfl, _, w1⟩ := w0.split
  obtain ⟨k1, us, rfl, _, w2⟩ := w1.split
  obtain ⟨k2, us, rfl, _, w3⟩ := w2.split
  obtain rfl := w3.nil
  have hlit' : gs = #[.int .i64 life, .int .i64 chan, .bool ack, .int .u64 seq, .int .i64 room, .int .i64 kind, .int .i64 ver, r0, r1, r2, r3, r4, r5, .int .i64 time, .int .i64 num, c0, c1, .slice a bins.length cap, t0, t1, t2, t3, t4, t5, t6, k0, k1, k2, .slice a' ents.length cap'] := hlit
  subst hlit'
  dsimp only at h1 h2 hl hc hr hs0 hs1 hb he
  refine Fn_enter Tryz.func36 rfl Tryz.ntmps36 rfl fun g => ?_
  repeat (first | refine RQ ?_ | ((first | refine WL_Q ?_); (first | refine QW_of (Qt_indexA rfl) ?_ | refine QW_of (Qt_buildA rfl) ?_ | refine QW_of (Qt_ldX rfl) ?_)) | (refine RE ?_; try intro _) | refine RC ?_ | refine WC_region (id := 0) ?_ | refine WC_region (id := 1) ?_)
  rename_i x1
  refine WC_unroll 4 (WCn_s ?_)
  have leaf : ∀ {bs : List UInt8} {n : Nat}, (GV.put ⟨life, chan, ack, seq, room, ⟨kind, ver, [r0, r1, r2, r3, r4, r5], time, num, [c0, c1], bins, [t0, t1, t2, t3, t4, t5, t6], [k0, k1, k2], ents⟩⟩) = (bs, n) → (Value.tuple #[.string (bstr bs), .int .i64 (n : Nat)]) = .tuple #[.string (bstr (GV.put ⟨life, chan, ack, seq, room, ⟨kind, ver, [r0, r1, r2, r3, r4, r5], time, num, [c0, c1], bins, [t0, t1, t2, t3, t4, t5, t6], [k0, k1, k2], ents⟩⟩).1), .int .i64 ((GV.put ⟨life, chan, ack, seq, room, ⟨kind, ver, [r0, r1, r2, r3, r4, r5], time, num, [c0, c1], bins, [t0, t1, t2, t3, t4, t5, t6], [k0, k1, k2], ents⟩⟩).2 : Nat)] := fun e => by rw [e]
  cases b1 : inB life 65535
  · have d1 : (!(!true || inB life 65535)) = true := by rw [b1]; rfl
    repeat (first | refine RQ ?_ | ((first | refine WL_Q ?_); (first | refine QW_of (Qt_indexA rfl) ?_ | refine QW_of (Qt_buildA rfl) ?_ | refine QW_of (Qt_ldX rfl) ?_)) | (refine RE ?_; try intro _) | ((first | refine WL_op rfl ?_); (first | refine OW_callP rfl (hF := right_fn) (hk := ?_))) | refine RC ?_ | refine WC_region (id := 2) ?_ | refine WC_region (id := 3) ?_ | refine WC_region (id := 4) ?_ | refine WC_region (id := 5) ?_)
    exact ⟨rfl, _, L, Res2 rfl (resV_tmp rfl) (resV_tmp rfl), (by repeat (first | exact List.Sublist.refl _ | apply List.Sublist.cons)), leaf (by simp [GV.put, b1]), rfl⟩
  have d1 : (!(!true || inB life 65535)) = false := by rw [b1]; rfl
  cases b2 : inB chan 99
  · have d2 : (!(!true || inB chan 99)) = true := by rw [b2]; rfl
    repeat (first | refine RQ ?_ | ((first | refine WL_Q ?_); (first | refine QW_of (Qt_indexA rfl) ?_ | refine QW_of (Qt_buildA rfl) ?_ | refine QW_of (Qt_ldX rfl) ?_)) | (refine RE ?_; try intro _) | ((first | refine WL_op rfl ?_); (first | refine OW_callP rfl (hF := right_fn) (hk := ?_))) | refine RC ?_ | refine WC_region (id := 2) ?_ | refine WC_region (id := 3) ?_ | refine WC_region (id := 4) ?_ | refine WC_region (id := 5) ?_ | refine WC_region (id := 6) ?_)
    exact ⟨rfl, _, L, Res2 rfl (resV_tmp rfl) (resV_tmp rfl), (by repeat (first | exact List.Sublist.refl _ | apply List.Sublist.cons)), leaf (by simp [GV.put, b1, b2]), rfl⟩
  have d2 : (!(!true || inB chan 99)) = false := by rw [b2]; rfl
  cases b3 : (!ack || inB room 16)
  · have d3 : (!(!ack || inB room 16)) = true := by rw [b3]; rfl
    have b3' : (ack && !inB room 16) = true := by cases ack <;> simp_all
    repeat (first | refine RQ ?_ | ((first | refine WL_Q ?_); (first | refine QW_of (Qt_indexA rfl) ?_ | refine QW_of (Qt_buildA rfl) ?_ | refine QW_of (Qt_ldX rfl) ?_)) | (refine RE ?_; try intro _) | ((first | refine WL_op rfl ?_); (first | refine OW_callP rfl (hF := right_fn) (hk := ?_))) | refine RC ?_ | refine WC_region (id := 2) ?_ | refine WC_region (id := 3) ?_ | refine WC_region (id := 4) ?_ | refine WC_region (id := 5) ?_ | refine WC_region (id := 6) ?_)
    exact ⟨rfl, _, L, Res2 rfl (resV_tmp rfl) (resV_tmp rfl), (by repeat (first | exact List.Sublist.refl _ | apply List.Sublist.cons)), leaf (by simp [GV.put, b1, b2, b3']), rfl⟩
  have d3 : (!(!ack || inB room 16)) = false := by rw [b3]; rfl
  have b3' : (ack && !inB room 16) = false := by cases ack <;> simp_all
  repeat (first | refine RQ ?_ | ((first | refine WL_Q ?_); (first | refine QW_of (Qt_indexA rfl) ?_ | refine QW_of (Qt_buildA rfl) ?_ | refine QW_of (Qt_ldX rfl) ?_)) | (refine RE ?_; try intro _) | ((first | refine WL_op rfl ?_); (first | refine OW_callP rfl (hF := right_fn) (hk := ?_))) | refine RC ?_ | refine WC_region (id := 2) ?_ | refine WC_region (id := 3) ?_ | refine WC_region (id := 4) ?_ | refine WC_region (id := 5) ?_ | refine WC_region (id := 6) ?_)
  refine WC_wk [(1, .pointer (some ⟨x1, 0, none⟩))] ⟨rfl, trivial⟩ ?_
  refine WC_dropL ((x1, Obj.cells #[.int .i64 life, .int .i64 chan, .bool ack, .int .u64 seq, .int .i64 room, .int .i64 kind, .int .i64 ver, r0, r1, r2, r3, r4, r5, .int .i64 time, .int .i64 num, c0, c1, .slice a bins.length cap, t0, t1, t2, t3, t4, t5, t6, k0, k1, k2, .slice a' ents.length cap'] 80 (0, 0)) :: L) (.cons _ (.cons _ (.cons _ (.refl _)))) ?_
  have q1 : 0 ≤ life ∧ life ≤ 65535 := by simpa [inB] using b1
  have q2 : 0 ≤ chan ∧ chan ≤ 99 := by simpa [inB] using b2
  have el : IntKind.u64.wrap life = life := wU64 (by omega) (by omega)
  have ec : IntKind.u64.wrap chan = chan := wU64 (by omega) (by omega)
  have le1 := enc_le (n := (IntKind.u64.wrap life).toNat) (by rw [el]; omega)
  have le2 := enc_le (n := (IntKind.u64.wrap chan).toNat) (by rw [ec]; omega)
  have le3 : (encB ack).length ≤ 10 := by cases ack <;> simp [encB]
  have le4 := enc_le (n := seq.toNat) (by omega)
  have hhead : ([] ++ enc (IntKind.u64.wrap life).toNat ++ enc (IntKind.u64.wrap chan).toNat ++ encB ack ++ enc seq.toNat) = (GV.head ⟨life, chan, ack, seq, room, ⟨kind, ver, [r0, r1, r2, r3, r4, r5], time, num, [c0, c1], bins, [t0, t1, t2, t3, t4, t5, t6], [k0, k1, k2], ents⟩⟩) := by rw [el, ec, List.nil_append]; rfl
  have hlen : (GV.head ⟨life, chan, ack, seq, room, ⟨kind, ver, [r0, r1, r2, r3, r4, r5], time, num, [c0, c1], bins, [t0, t1, t2, t3, t4, t5, t6], [k0, k1, k2], ents⟩⟩).length ≤ 40 := by rw [← hhead]; simp only [List.length_append, List.length_nil]; omega
  have u0 := u64_lo life; have u1 := u64_hi life; have u2 := u64_lo chan; have u3 := u64_hi chan
  repeat (first | refine RQr ?_ | ((first | refine WL_Q ?_ | refine WR_Q rfl ?_ | refine WR_late rfl rfl rfl (OW_Q ?_)); (first | refine QW_of (Qt_indexA rfl) ?_ | refine QW_of (Qt_buildA rfl) ?_ | refine QW_of (Qt_ldX rfl) ?_)) | ((first | refine WL_op rfl ?_ | refine WR_late rfl rfl rfl ?_ | refine WR_opG rfl rfl ?_); (first | (refine OW_call rfl (hF := P_fn' (by first | exact ByAt.nil _ | exact own_by0 (by with_reducible assumption)) (by with_reducible assumption) (by with_reducible assumption) (by simp only [List.length_append, List.length_nil]; omega)) (hk := ?_); rintro _ _ ⟨p1, off1, cap1, cur1, rfl, rfl, ho1⟩) | (refine OW_call rfl (hF := PBool_fn (own_by0 (by with_reducible assumption)) (by simp only [List.length_append, List.length_nil]; omega)) (hk := ?_); rintro _ _ ⟨p1, off1, cap1, cur1, rfl, rfl, ho1⟩)); try refine SD ?_) | refine RC ?_ | refine RU ?_ | refine WC_draw_all (id := 7) 15 (.calm 0 <| .calm 1 <| .calm 2 <| .calm 4 <| .calm 5 <| .calm 6 <| .calm 8 <| .calm 9 <| .calm 11 <| .calm 12 <| .must 3 <| .must 7 <| .must 10 <| .must 13 <| .calm 14 <| .done) mixed (by kernel_rfl) ?_)
  rw [hhead] at ho1 ⊢
  obtain ⟨H, hH⟩ : ∃ H, H = GV.head ⟨life, chan, ack, seq, room, ⟨kind, ver, [r0, r1, r2, r3, r4, r5], time, num, [c0, c1], bins, [t0, t1, t2, t3, t4, t5, t6], [k0, k1, k2], ents⟩⟩ := ⟨_, rfl⟩
  rw [← hH] at ho1 hlen ⊢
  have hOH := ho1
  refine WC_wk [(6, .slice (some ⟨p1, off1, none⟩) H.length cap1), (1, .pointer (some ⟨x1, 0, none⟩))] ⟨rfl, rfl, trivial⟩ ?_
  refine WC_dropL ((p1, Obj.cells cur1 5 (0, 0)) :: (x1, Obj.cells #[.int .i64 life, .int .i64 chan, .bool ack, .int .u64 seq, .int .i64 room, .int .i64 kind, .int .i64 ver, r0, r1, r2, r3, r4, r5, .int .i64 time, .int .i64 num, c0, c1, .slice a bins.length cap, t0, t1, t2, t3, t4, t5, t6, k0, k1, k2, .slice a' ents.length cap'] 80 (0, 0)) :: L) (.cons_cons _ (.cons _ (.cons _ (.cons _ (.refl _))))) ?_
  have hx5 : (#[.int .i64 life, .int .i64 chan, .bool ack, .int .u64 seq, .int .i64 room, .int .i64 kind, .int .i64 ver, r0, r1, r2, r3, r4, r5, .int .i64 time, .int .i64 num, c0, c1, .slice a bins.length cap, t0, t1, t2, t3, t4, t5, t6, k0, k1, k2, .slice a' ents.length cap']).extract 5 (5 + 24) = #[.int .i64 kind, .int .i64 ver, r0, r1, r2, r3, r4, r5, .int .i64 time, .int .i64 num, c0, c1, .slice a bins.length cap, t0, t1, t2, t3, t4, t5, t6, k0, k1, k2, .slice a' ents.length cap'] := by kernel_rfl
  have hMM : MsgAt L #[.int .i64 kind, .int .i64 ver, r0, r1, r2, r3, r4, r5, .int .i64 time, .int .i64 num, c0, c1, .slice a bins.length cap, t0, t1, t2, t3, t4, t5, t6, k0, k1, k2, .slice a' ents.length cap'] ⟨kind, ver, [r0, r1, r2, r3, r4, r5], time, num, [c0, c1], bins, [t0, t1, t2, t3, t4, t5, t6], [k0, k1, k2], ents⟩ a cap a' cap' := hM
  have hz5 := hMM.size
  have hone5 := MV.all_one hMM.ok hMM.size hMM.lies
  repeat (first | refine RQ ?_ | ((first | refine WL_Q ?_); (first | refine QW_of (Qt_indexA rfl) ?_ | refine QW_of (Qt_buildA rfl) ?_ | refine QW_of (Qt_ldX rfl) ?_)) | (refine RE ?_; try intro _) | refine RC ?_ | refine WC_region (id := 8) ?_)
  cases ha : ack
  rotate_left
  · subst ha
    have q3 : 0 ≤ room ∧ room ≤ 16 := by simpa [inB] using b3
    have er : IntKind.u64.wrap room = room := wU64 (by omega) (by omega)
    have v0 := u64_lo room; have v1 := u64_hi room
    have hp : GV.put ⟨life, chan, true, seq, room, ⟨kind, ver, [r0, r1, r2, r3, r4, r5], time, num, [c0, c1], bins, [t0, t1, t2, t3, t4, t5, t6], [k0, k1, k2], ents⟩⟩ = (H ++ enc (IntKind.u64.wrap room).toNat, 0) := by
      rw [er, hH]; simp [GV.put, b1, b2, b3']
    repeat (first | refine RQ ?_ | ((first | refine WL_Q ?_); (first | refine QW_of (Qt_indexA rfl) ?_ | refine QW_of (Qt_buildA rfl) ?_ | refine QW_of (Qt_ldX rfl) ?_)) | ((first | refine WL_op rfl ?_); (first | (refine OW_call rfl (hF := P_fn' (bs := H) ((own_by0 hOH).cons _) (by with_reducible assumption) (by with_reducible assumption) (by omega)) (hk := ?_); rintro _ _ ⟨p2, off2, cap2, cur2, rfl, rfl, ho2⟩))) | refine RC ?_ | refine WC_region (id := 9) ?_ | refine WC_region (id := 10) ?_)
    exact ⟨rfl, _, L, Res2 rfl (resV_tmp rfl) (resV_tmp rfl), (by repeat (first | exact List.Sublist.refl _ | apply List.Sublist.cons)), by rw [hp]; rfl, rfl⟩
  subst ha
  have lf : ∀ {bs : List UInt8} {n : Nat}, (GV.put ⟨life, chan, false, seq, room, ⟨kind, ver, [r0, r1, r2, r3, r4, r5], time, num, [c0, c1], bins, [t0, t1, t2, t3, t4, t5, t6], [k0, k1, k2], ents⟩⟩) = (bs, n) → (Value.tuple #[.string (bstr bs), .int .i64 (n : Nat)]) = .tuple #[.string (bstr (GV.put ⟨life, chan, false, seq, room, ⟨kind, ver, [r0, r1, r2, r3, r4, r5], time, num, [c0, c1], bins, [t0, t1, t2, t3, t4, t5, t6], [k0, k1, k2], ents⟩⟩).1), .int .i64 ((GV.put ⟨life, chan, false, seq, room, ⟨kind, ver, [r0, r1, r2, r3, r4, r5], time, num, [c0, c1], bins, [t0, t1, t2, t3, t4, t5, t6], [k0, k1, k2], ents⟩⟩).2 : Nat)] := fun e => by rw [e]
  cases b4 : inB kind 4
  · have d4 : (!(!true || inB kind 4)) = true := by rw [b4]; rfl
    repeat (first | refine RQ ?_ | ((first | refine WL_Q ?_); (first | refine QW_of (Qt_indexA rfl) ?_ | refine QW_of (Qt_buildA rfl) ?_ | refine QW_of (Qt_ldX rfl) ?_)) | ((first | refine WL_op rfl ?_); (first | refine OW_callP rfl (hF := right_fn) (hk := ?_))) | refine RC ?_ | refine WC_region (id := 9) ?_ | refine WC_region (id := 11) ?_ | refine WC_region (id := 12) ?_)
    exact ⟨rfl, _, L, Res2 rfl (resV_tmp rfl) (resV_tmp rfl), (by repeat (first | exact List.Sublist.refl _ | apply List.Sublist.cons)), lf (by simp [GV.put, b1, b2, b4]), rfl⟩
  have d4 : (!(!true || inB kind 4)) = false := by rw [b4]; rfl
  have i5 : inB ((bins.length : Nat) : Int) 8 = !decide (8 < bins.length) := by
    by_cases h : 8 < bins.length <;> simp [inB, h] <;> omega
  have i6 : inB ((ents.length : Nat) : Int) 64 = !decide (64 < ents.length) := by
    by_cases h : 64 < ents.length <;> simp [inB, h] <;> omega
  cases b5 : (!(!(kind == 3) || inB ((bins.length : Nat) : Int) 8))
  rotate_left
  · have hm : GV.many ⟨life, chan, false, seq, room, ⟨kind, ver, [r0, r1, r2, r3, r4, r5], time, num, [c0, c1], bins, [t0, t1, t2, t3, t4, t5, t6], [k0, k1, k2], ents⟩⟩ = true := by
      rw [i5] at b5
      simp only [Bool.not_or, Bool.not_not] at b5
      unfold GV.many
      dsimp only
      rw [b5]; rfl
    repeat (first | refine RQ ?_ | ((first | refine WL_Q ?_); (first | refine QW_of (Qt_indexA rfl) ?_ | refine QW_of (Qt_buildA rfl) ?_ | refine QW_of (Qt_ldX rfl) ?_)) | ((first | refine WL_op rfl ?_); (first | refine OW_callP rfl (hF := right_fn) (hk := ?_))) | refine RC ?_ | refine WC_region (id := 9) ?_ | refine WC_region (id := 11) ?_ | refine WC_region (id := 13) ?_ | refine WC_region (id := 14) ?_ | refine WC_region (id := 15) ?_)
    exact ⟨rfl, _, L, Res2 rfl (resV_tmp rfl) (resV_tmp rfl), (by repeat (first | exact List.Sublist.refl _ | apply List.Sublist.cons)), lf (by simp [GV.put, b1, b2, b4, hm]), rfl⟩
  cases b6 : (!(!(kind == 4) || inB ((ents.length : Nat) : Int) 64))
  rotate_left
  · have hm : GV.many ⟨life, chan, false, seq, room, ⟨kind, ver, [r0, r1, r2, r3, r4, r5], time, num, [c0, c1], bins, [t0, t1, t2, t3, t4, t5, t6], [k0, k1, k2], ents⟩⟩ = true := by
      rw [i6] at b6
      simp only [Bool.not_or, Bool.not_not] at b6
      unfold GV.many
      dsimp only
      rw [b6]; simp
    repeat (first | refine RQ ?_ | ((first | refine WL_Q ?_); (first | refine QW_of (Qt_indexA rfl) ?_ | refine QW_of (Qt_buildA rfl) ?_ | refine QW_of (Qt_ldX rfl) ?_)) | ((first | refine WL_op rfl ?_); (first | refine OW_callP rfl (hF := right_fn) (hk := ?_))) | refine RC ?_ | refine WC_region (id := 9) ?_ | refine WC_region (id := 11) ?_ | refine WC_region (id := 13) ?_ | refine WC_region (id := 14) ?_ | refine WC_region (id := 15) ?_)
    exact ⟨rfl, _, L, Res2 rfl (resV_tmp rfl) (resV_tmp rfl), (by repeat (first | exact List.Sublist.refl _ | apply List.Sublist.cons)), lf (by simp [GV.put, b1, b2, b4, hm]), rfl⟩
  have hm : GV.many ⟨life, chan, false, seq, room, ⟨kind, ver, [r0, r1, r2, r3, r4, r5], time, num, [c0, c1], bins, [t0, t1, t2, t3, t4, t5, t6], [k0, k1, k2], ents⟩⟩ = false := by
    rw [i5] at b5
    rw [i6] at b6
    simp only [Bool.not_or, Bool.not_not] at b5 b6
    unfold GV.many
    dsimp only
    rw [b5, b6]; rfl
  have n12 : (⟨kind, ver, [r0, r1, r2, r3, r4, r5], time, num, [c0, c1], bins, [t0, t1, t2, t3, t4, t5, t6], [k0, k1, k2], ents⟩ : MV).bins.length ≤ 1000000 := by show bins.length ≤ _; omega
  have n70 : (⟨kind, ver, [r0, r1, r2, r3, r4, r5], time, num, [c0, c1], bins, [t0, t1, t2, t3, t4, t5, t6], [k0, k1, k2], ents⟩ : MV).ents.length ≤ 100000 := by show ents.length ≤ _; omega
  have hH9 : H.length ≤ 900000000 := by omega
  have hp : GV.put ⟨life, chan, false, seq, room, ⟨kind, ver, [r0, r1, r2, r3, r4, r5], time, num, [c0, c1], bins, [t0, t1, t2, t3, t4, t5, t6], [k0, k1, k2], ents⟩⟩ = (H ++ MV.enc ⟨kind, ver, [r0, r1, r2, r3, r4, r5], time, num, [c0, c1], bins, [t0, t1, t2, t3, t4, t5, t6], [k0, k1, k2], ents⟩, 0) := by
    rw [hH]; simp [GV.put, b1, b2, b4, hm]
  repeat (first | refine RQ ?_ | ((first | refine WL_Q ?_); (first | refine QW_of (Qt_indexA rfl) ?_ | refine QW_of (Qt_buildA rfl) ?_ | refine QW_of (Qt_ldX rfl) ?_)) | ((first | refine WL_op rfl ?_); (first | refine OW_callP rfl (hF := right_fn) (hk := ?_) | (refine OW_call rfl (hF := PMsg_at (by repeat (first | with_reducible exact hMM | apply MsgAt.cons)) (bs := H) ((own_by0 hOH).cons _) n12 n70 hH9) (hk := ?_); rintro _ _ ⟨p2, off2, cap2, cur2, rfl, rfl, ho2⟩))) | refine RC ?_ | refine WC_region (id := 9) ?_ | refine WC_region (id := 11) ?_ | refine WC_region (id := 13) ?_ | refine WC_region (id := 14) ?_ | refine WC_region (id := 16) ?_)
  exact ⟨rfl, _, L, Res2 rfl (resV_tmp rfl) (resV_tmp rfl), (by repeat (first | exact List.Sublist.refl _ | apply List.Sublist.cons)), by rw [hp]; rfl, rfl⟩
set_option maxHeartbeats 16000000 in
set_option maxRecDepth 100000 in
theorem rPut_fn {L : List (Nat × Obj)} {gs : Array Value} {g : GV} {a : Option Addr} {cap : Nat} {a' : Option Addr} {cap' : Nat} (h : GramAt L gs g a cap a' cap') (hb : g.m.bins.length ≤ 1000) (he : g.m.ents.length ≤ 1000) :
    Fn Tryz.prog 37 [.agg gs] L (fun v L' => v = .tuple #[.string (bstr g.put.1), .int .i64 (g.put.2 : Nat)] ∧ L' = L) := by
  have h1 := h.c1; have h2 := h.c2; have h3 := h.m1; have h4 := h.m2
  have hlit := h.lit
  have hone := h.one
  have hM := h.msg
  have hl := h.life; have hc := h.chan; have hr := h.room; have hs0 := h.s0; have hs1 := h.s1
  obtain ⟨life, chan, ack, seq, room, ⟨kind, ver, rc, time, num, ch, bins, ct, kh, ents⟩⟩ := g
  have hrc := h.m.rc; have hch := h.m.ch; have hct := h.m.ct; have hkh := h.m.kh
  have hbins := h.m.bins; have hents := h.m.ents
  have hki := h.m.kind; have hve := h.m.ver; have hti := h.m.time; have hnu := h.m.num
  dsimp only at hrc hch hct hkh hbins hents hki hve hti hnu
  have w0 := hrc
  obtain ⟨r0, us, rfl, _, w1⟩ := w0.split
  obtain ⟨r1, us, rfl, _, w2⟩ := w1.split
  obtain ⟨r2, us, rfl, _, w3⟩ := w2.split
  obtain ⟨r3, us, rfl, _, w4⟩ := w3.split
  obtain ⟨r4, us, rfl, _, w5⟩ := w4.split
  obtain ⟨r5, us, rfl, _, w6⟩ := w5.split
  obtain rfl := w6.nil
  have w0 := hch
  obtain ⟨c0, us, rfl, _, w1⟩ := w0.split
  obtain ⟨c1, us, rfl, _, w2⟩ := w1.split
  obtain rfl := w2.nil
  have w0 := hct
  obtain ⟨t0, us, rfl, _, w1⟩ := w0.split
  obtain ⟨t1, us, rfl, _, w2⟩ := w1.split
  obtain ⟨t2, us, rfl, _, w3⟩ := w2.split
  obtain ⟨t3, us, rfl, _, w4⟩ := w3.split
  obtain ⟨t4, us, rfl, _, w5⟩ := w4.split
  obtain ⟨t5, us, rfl, _, w6⟩ := w5.split
  obtain ⟨t6, us, rfl, _, w7⟩ := w6.split
  obtain rfl := w7.nil
  have w0 := hkh
  obtain ⟨k0, us, rfl, _, w1⟩ := w0.split
  obtain ⟨k1, us, rfl, _, w2⟩ := w1.split
  obtain ⟨k2, us, rfl, _, w3⟩ := w2.split
  obtain rfl := w3.nil
  have hlit' : gs = #[.int .i64 life, .int .i64 chan, .bool ack, .int .u64 seq, .int .i64 room, .int .i64 kind, .int .i64 ver, r0, r1, r2, r3, r4, r5, .int .i64 time, .int .i64 num, c0, c1, .slice a bins.length cap, t0, t1, t2, t3, t4, t5, t6, k0, k1, k2, .slice a' ents.length cap'] := hlit
  subst hlit'
  dsimp only at h1 h2 hl hc hr hs0 hs1 hb he
  refine Fn_enter Tryz.func37 rfl Tryz.ntmps37 rfl fun g => ?_
  repeat (first | refine RQ ?_ | ((first | refine WL_Q ?_); (first | refine QW_of (Qt_indexA rfl) ?_ | refine QW_of (Qt_buildA rfl) ?_ | refine QW_of (Qt_ldX rfl) ?_)) | (refine RE ?_; try intro _) | refine RC ?_ | refine WC_region (id := 0) ?_)
  rename_i x1
  cases b1 : inB life 65535
  · have d1 : (!(inB life 65535)) = true := by rw [b1]; rfl
    repeat (first | refine RQ ?_ | ((first | refine WL_Q ?_ | refine WL_Y ?_); (first | refine QW_of (Qt_indexA rfl) ?_ | refine QW_of (Qt_buildA rfl) ?_ | refine QW_of (Qt_ldX rfl) ?_)) | ((first | refine WL_op rfl ?_ | refine WL_yes (h := ?_)); (first | refine OW_callP rfl (hF := in18_fn) (hk := ?_))) | refine RC ?_ | refine WC_region (id := 1) ?_ | refine WC_region (id := 2) ?_)
    exact ⟨rfl, _, L, Res2 rfl (resV_tmp rfl) (resV_tmp rfl), (by repeat (first | exact List.Sublist.refl _ | apply List.Sublist.cons)), by rw [show GV.put ⟨life, chan, ack, seq, room, ⟨kind, ver, [r0, r1, r2, r3, r4, r5], time, num, [c0, c1], bins, [t0, t1, t2, t3, t4, t5, t6], [k0, k1, k2], ents⟩⟩ = ([], 2) from by simp [GV.put, b1]]; rfl, rfl⟩
  have d1 : (!(inB life 65535)) = false := by rw [b1]; rfl
  cases b2 : inB chan 99
  · have d2 : (!(inB chan 99)) = true := by rw [b2]; rfl
    repeat (first | refine RQ ?_ | ((first | refine WL_Q ?_ | refine WL_Y ?_); (first | refine QW_of (Qt_indexA rfl) ?_ | refine QW_of (Qt_buildA rfl) ?_ | refine QW_of (Qt_ldX rfl) ?_)) | ((first | refine WL_op rfl ?_ | refine WL_yes (h := ?_)); (first | refine OW_callP rfl (hF := in18_fn) (hk := ?_))) | refine RC ?_ | refine WC_region (id := 1) ?_ | refine WC_region (id := 2) ?_)
    exact ⟨rfl, _, L, Res2 rfl (resV_tmp rfl) (resV_tmp rfl), (by repeat (first | exact List.Sublist.refl _ | apply List.Sublist.cons)), by rw [show GV.put ⟨life, chan, ack, seq, room, ⟨kind, ver, [r0, r1, r2, r3, r4, r5], time, num, [c0, c1], bins, [t0, t1, t2, t3, t4, t5, t6], [k0, k1, k2], ents⟩⟩ = ([], 2) from by simp [GV.put, b1, b2]]; rfl, rfl⟩
  have d2 : (!(inB chan 99)) = false := by rw [b2]; rfl
  have q1 : 0 ≤ life ∧ life ≤ 65535 := by simpa [inB] using b1
  have q2 : 0 ≤ chan ∧ chan ≤ 99 := by simpa [inB] using b2
  have el : IntKind.u64.wrap life = life := wU64 (by omega) (by omega)
  have ec : IntKind.u64.wrap chan = chan := wU64 (by omega) (by omega)
  have le1 := enc_le (n := (IntKind.u64.wrap life).toNat) (by rw [el]; omega)
  have le2 := enc_le (n := (IntKind.u64.wrap chan).toNat) (by rw [ec]; omega)
  have le3 : (encB ack).length ≤ 10 := by cases ack <;> simp [encB]
  have le4 := enc_le (n := seq.toNat) (by omega)
  have hhead : (enc (IntKind.u64.wrap life).toNat ++ enc (IntKind.u64.wrap chan).toNat ++ encB ack ++ enc seq.toNat) = (GV.head ⟨life, chan, ack, seq, room, ⟨kind, ver, [r0, r1, r2, r3, r4, r5], time, num, [c0, c1], bins, [t0, t1, t2, t3, t4, t5, t6], [k0, k1, k2], ents⟩⟩) := by rw [el, ec]; rfl
  have hlen : (GV.head ⟨life, chan, ack, seq, room, ⟨kind, ver, [r0, r1, r2, r3, r4, r5], time, num, [c0, c1], bins, [t0, t1, t2, t3, t4, t5, t6], [k0, k1, k2], ents⟩⟩).length ≤ 40 := by rw [← hhead]; simp only [List.length_append]; omega
  have u0 := u64_lo life; have u1 := u64_hi life; have u2 := u64_lo chan; have u3 := u64_hi chan
  have hx5 : (#[.int .i64 life, .int .i64 chan, .bool ack, .int .u64 seq, .int .i64 room, .int .i64 kind, .int .i64 ver, r0, r1, r2, r3, r4, r5, .int .i64 time, .int .i64 num, c0, c1, .slice a bins.length cap, t0, t1, t2, t3, t4, t5, t6, k0, k1, k2, .slice a' ents.length cap']).extract 5 (5 + 24) = #[.int .i64 kind, .int .i64 ver, r0, r1, r2, r3, r4, r5, .int .i64 time, .int .i64 num, c0, c1, .slice a bins.length cap, t0, t1, t2, t3, t4, t5, t6, k0, k1, k2, .slice a' ents.length cap'] := by kernel_rfl
  have hMM : MsgAt L #[.int .i64 kind, .int .i64 ver, r0, r1, r2, r3, r4, r5, .int .i64 time, .int .i64 num, c0, c1, .slice a bins.length cap, t0, t1, t2, t3, t4, t5, t6, k0, k1, k2, .slice a' ents.length cap'] ⟨kind, ver, [r0, r1, r2, r3, r4, r5], time, num, [c0, c1], bins, [t0, t1, t2, t3, t4, t5, t6], [k0, k1, k2], ents⟩ a cap a' cap' := hM
  have hz5 := hMM.size
  have hone5 := MV.all_one hMM.ok hMM.size hMM.lies
  cases ha : ack
  rotate_left
  · subst ha
    cases b3 : inB room 16
    · have d3 : (!(inB room 16)) = true := by rw [b3]; rfl
      repeat (first | refine RQ ?_ | ((first | refine WL_Q ?_ | refine WL_Y ?_); (first | refine QW_of (Qt_indexA rfl) ?_ | refine QW_of (Qt_buildA rfl) ?_ | refine QW_of (Qt_ldX rfl) ?_)) | ((first | refine WL_op rfl ?_ | refine WL_yes (h := ?_)); (first | refine OW_callP rfl (hF := in18_fn) (hk := ?_))) | refine RC ?_ | refine WC_region (id := 1) ?_ | refine WC_region (id := 2) ?_)
      exact ⟨rfl, _, L, Res2 rfl (resV_tmp rfl) (resV_tmp rfl), (by repeat (first | exact List.Sublist.refl _ | apply List.Sublist.cons)), by rw [show GV.put ⟨life, chan, true, seq, room, ⟨kind, ver, [r0, r1, r2, r3, r4, r5], time, num, [c0, c1], bins, [t0, t1, t2, t3, t4, t5, t6], [k0, k1, k2], ents⟩⟩ = ([], 2) from by simp [GV.put, b1, b2, b3]]; rfl, rfl⟩
    have d3 : (!(inB room 16)) = false := by rw [b3]; rfl
    have q3 : 0 ≤ room ∧ room ≤ 16 := by simpa [inB] using b3
    have er : IntKind.u64.wrap room = room := wU64 (by omega) (by omega)
    have v0 := u64_lo room; have v1 := u64_hi room
    have le5 := enc_le (n := (IntKind.u64.wrap room).toNat) (by rw [er]; omega)
    have hp : GV.put ⟨life, chan, true, seq, room, ⟨kind, ver, [r0, r1, r2, r3, r4, r5], time, num, [c0, c1], bins, [t0, t1, t2, t3, t4, t5, t6], [k0, k1, k2], ents⟩⟩ = (GV.head ⟨life, chan, true, seq, room, ⟨kind, ver, [r0, r1, r2, r3, r4, r5], time, num, [c0, c1], bins, [t0, t1, t2, t3, t4, t5, t6], [k0, k1, k2], ents⟩⟩ ++ enc (IntKind.u64.wrap room).toNat, 0) := by
      rw [er]; simp [GV.put, b1, b2, b3]
    repeat (first | refine RQr ?_ | ((first | refine WL_Q ?_ | refine WL_Y ?_ | refine WR_Q rfl ?_ | refine WR_late rfl rfl rfl (OW_Q ?_) | refine WR_Y rfl ?_); (first | refine QW_of (Qt_indexA rfl) ?_ | refine QW_of (Qt_buildA rfl) ?_ | refine QW_of (Qt_ldX rfl) ?_)) | ((first | refine WL_op rfl ?_ | refine WL_yes (h := ?_) | refine WR_late rfl rfl rfl ?_ | refine WR_opG rfl rfl ?_ | refine WR_opYG rfl (h := ?_)); (first | refine OW_callP rfl (hF := in18_fn) (hk := ?_) | refine OW_callP rfl (hF := Truth_fn) (hk := ?_) | refine OW_callP rfl (hF := Num_fn' (by with_reducible assumption) (by with_reducible assumption)) (hk := ?_)); try refine SD ?_) | refine RC ?_ | refine RU ?_ | refine WC_draw_all (id := 3) 18 (.calm 0 <| .calm 1 <| .calm 2 <| .calm 4 <| .calm 5 <| .calm 6 <| .calm 9 <| .calm 10 <| .calm 13 <| .calm 14 <| .must 3 <| .must 7 <| .calm 8 <| .must 11 <| .calm 12 <| .must 15 <| .calm 16 <| .calm 17 <| .done) mixed (by kernel_rfl) ?_ | refine WC_region (id := 1) ?_ | refine WC_region (id := 4) ?_)
    rw [hhead]
    repeat (first | refine RQ ?_ | ((first | refine WL_Q ?_); (first | refine QW_of (Qt_indexA rfl) ?_ | refine QW_of (Qt_buildA rfl) ?_ | refine QW_of (Qt_ldX rfl) ?_)) | ((first | refine WL_op rfl ?_); (first | refine OW_callP rfl (hF := Num_fn' (by with_reducible assumption) (by with_reducible assumption)) (hk := ?_))) | refine RC ?_ | refine WC_region (id := 4) ?_ | refine WC_region (id := 5) ?_)
    exact ⟨rfl, _, L, Res2 rfl (resV_tmp rfl) (resV_tmp rfl), (by repeat (first | exact List.Sublist.refl _ | apply List.Sublist.cons)), by rw [hp]; rfl, rfl⟩
  subst ha
  repeat (first | refine RQr ?_ | ((first | refine WL_Q ?_ | refine WL_Y ?_ | refine WR_Q rfl ?_ | refine WR_late rfl rfl rfl (OW_Q ?_) | refine WR_Y rfl ?_); (first | refine QW_of (Qt_indexA rfl) ?_ | refine QW_of (Qt_buildA rfl) ?_ | refine QW_of (Qt_ldX rfl) ?_)) | ((first | refine WL_op rfl ?_ | refine WL_yes (h := ?_) | refine WR_late rfl rfl rfl ?_ | refine WR_opG rfl rfl ?_ | refine WR_opYG rfl (h := ?_)); (first | refine OW_callP rfl (hF := in18_fn) (hk := ?_) | refine OW_callP rfl (hF := Truth_fn) (hk := ?_) | refine OW_callP rfl (hF := Num_fn' (by with_reducible assumption) (by with_reducible assumption)) (hk := ?_)); try refine SD ?_) | refine RC ?_ | refine RU ?_ | refine WC_draw_all (id := 3) 18 (.calm 0 <| .calm 1 <| .calm 2 <| .calm 4 <| .calm 5 <| .calm 6 <| .calm 9 <| .calm 10 <| .calm 13 <| .calm 14 <| .must 3 <| .must 7 <| .calm 8 <| .must 11 <| .calm 12 <| .must 15 <| .calm 16 <| .calm 17 <| .done) mixed (by kernel_rfl) ?_ | refine WC_region (id := 1) ?_)
  rw [hhead]
  repeat (first | refine RQ ?_ | ((first | refine WL_Q ?_); (first | refine QW_of (Qt_indexA rfl) ?_ | refine QW_of (Qt_buildA rfl) ?_ | refine QW_of (Qt_ldX rfl) ?_)) | (refine RE ?_; try intro _) | refine RC ?_ | refine WC_region (id := 4) ?_ | refine WC_region (id := 6) ?_)
  cases b4 : inB kind 4
  · have d4 : (!(inB kind 4)) = true := by rw [b4]; rfl
    repeat (first | refine RQ ?_ | ((first | refine WL_Q ?_); (first | refine QW_of (Qt_indexA rfl) ?_ | refine QW_of (Qt_buildA rfl) ?_ | refine QW_of (Qt_ldX rfl) ?_)) | ((first | refine WL_op rfl ?_); (first | refine OW_callP rfl (hF := in18_fn) (hk := ?_))) | refine RC ?_ | refine WC_region (id := 7) ?_ | refine WC_region (id := 8) ?_)
    exact ⟨rfl, _, L, Res2 rfl (resV_tmp rfl) (resV_tmp rfl), (by repeat (first | exact List.Sublist.refl _ | apply List.Sublist.cons)), by rw [show GV.put ⟨life, chan, false, seq, room, ⟨kind, ver, [r0, r1, r2, r3, r4, r5], time, num, [c0, c1], bins, [t0, t1, t2, t3, t4, t5, t6], [k0, k1, k2], ents⟩⟩ = ([], 6) from by simp [GV.put, b1, b2, b4]]; rfl, rfl⟩
  have d4 : (!(inB kind 4)) = false := by rw [b4]; rfl
  have n12 : (⟨kind, ver, [r0, r1, r2, r3, r4, r5], time, num, [c0, c1], bins, [t0, t1, t2, t3, t4, t5, t6], [k0, k1, k2], ents⟩ : MV).bins.length ≤ 1000000 := by show bins.length ≤ _; omega
  have n70 : (⟨kind, ver, [r0, r1, r2, r3, r4, r5], time, num, [c0, c1], bins, [t0, t1, t2, t3, t4, t5, t6], [k0, k1, k2], ents⟩ : MV).ents.length ≤ 1000000 := by show ents.length ≤ _; omega
  have hel := MV.enc_len hMM.ok (by show bins.length ≤ 100000; omega) (by show ents.length ≤ 100000; omega)
  have hcat : (GV.head ⟨life, chan, false, seq, room, ⟨kind, ver, [r0, r1, r2, r3, r4, r5], time, num, [c0, c1], bins, [t0, t1, t2, t3, t4, t5, t6], [k0, k1, k2], ents⟩⟩).length + (MV.enc ⟨kind, ver, [r0, r1, r2, r3, r4, r5], time, num, [c0, c1], bins, [t0, t1, t2, t3, t4, t5, t6], [k0, k1, k2], ents⟩).length ≤ 4611686018427387904 := by omega
  have fin : (GV.many ⟨life, chan, false, seq, room, ⟨kind, ver, [r0, r1, r2, r3, r4, r5], time, num, [c0, c1], bins, [t0, t1, t2, t3, t4, t5, t6], [k0, k1, k2], ents⟩⟩) = false → GV.put ⟨life, chan, false, seq, room, ⟨kind, ver, [r0, r1, r2, r3, r4, r5], time, num, [c0, c1], bins, [t0, t1, t2, t3, t4, t5, t6], [k0, k1, k2], ents⟩⟩ = (GV.head ⟨life, chan, false, seq, room, ⟨kind, ver, [r0, r1, r2, r3, r4, r5], time, num, [c0, c1], bins, [t0, t1, t2, t3, t4, t5, t6], [k0, k1, k2], ents⟩⟩ ++ MV.enc ⟨kind, ver, [r0, r1, r2, r3, r4, r5], time, num, [c0, c1], bins, [t0, t1, t2, t3, t4, t5, t6], [k0, k1, k2], ents⟩, 0) := fun hm => by simp [GV.put, b1, b2, b4, hm]
  cases k3 : (kind == 3)
  · cases k4 : (kind == 4)
    · have hm : GV.many ⟨life, chan, false, seq, room, ⟨kind, ver, [r0, r1, r2, r3, r4, r5], time, num, [c0, c1], bins, [t0, t1, t2, t3, t4, t5, t6], [k0, k1, k2], ents⟩⟩ = false := by unfold GV.many; dsimp only; rw [k3, k4]; rfl
      repeat (first | refine RQ ?_ | ((first | refine WL_Q ?_ | refine WL_Y ?_); (first | refine QW_of (Qt_indexA rfl) ?_ | refine QW_of (Qt_buildA rfl) ?_ | refine QW_of (Qt_ldX rfl) ?_)) | ((first | refine WL_op rfl ?_ | refine WL_yes (h := ?_)); (first | refine OW_callP rfl (hF := in18_fn) (hk := ?_) | refine OW_callP rfl (hF := rMsg_at (by repeat (first | with_reducible exact hMM | apply MsgAt.cons)) n12 n70) (hk := ?_))) | refine RC ?_ | refine WC_region (id := 7) ?_ | refine WC_region (id := 9) ?_ | refine WC_region (id := 11) ?_)
      exact ⟨rfl, _, L, Res2 rfl (resV_tmp rfl) (resV_tmp rfl), (by repeat (first | exact List.Sublist.refl _ | apply List.Sublist.cons)), by rw [fin hm]; rfl, rfl⟩
    · by_cases hn : 64 < ents.length
      · have d5 : decide (((ents.length : Nat) : Int) > 64) = true := decide_eq_true (by omega)
        have hm : GV.many ⟨life, chan, false, seq, room, ⟨kind, ver, [r0, r1, r2, r3, r4, r5], time, num, [c0, c1], bins, [t0, t1, t2, t3, t4, t5, t6], [k0, k1, k2], ents⟩⟩ = true := by unfold GV.many; dsimp only; rw [k3, k4, decide_eq_true hn]; rfl
        repeat (first | refine RQ ?_ | ((first | refine WL_Q ?_ | refine WL_Y ?_); (first | refine QW_of (Qt_indexA rfl) ?_ | refine QW_of (Qt_buildA rfl) ?_ | refine QW_of (Qt_ldX rfl) ?_)) | ((first | refine WL_op rfl ?_ | refine WL_yes (h := ?_)); (first | refine OW_callP rfl (hF := in18_fn) (hk := ?_))) | refine RC ?_ | refine WC_region (id := 7) ?_ | refine WC_region (id := 9) ?_ | refine WC_region (id := 10) ?_)
        exact ⟨rfl, _, L, Res2 rfl (resV_tmp rfl) (resV_tmp rfl), (by repeat (first | exact List.Sublist.refl _ | apply List.Sublist.cons)), by rw [show GV.put ⟨life, chan, false, seq, room, ⟨kind, ver, [r0, r1, r2, r3, r4, r5], time, num, [c0, c1], bins, [t0, t1, t2, t3, t4, t5, t6], [k0, k1, k2], ents⟩⟩ = ([], 4) from by simp [GV.put, b1, b2, b4, hm]]; rfl, rfl⟩
      · have d5 : decide (((ents.length : Nat) : Int) > 64) = false := decide_eq_false (by omega)
        have hm : GV.many ⟨life, chan, false, seq, room, ⟨kind, ver, [r0, r1, r2, r3, r4, r5], time, num, [c0, c1], bins, [t0, t1, t2, t3, t4, t5, t6], [k0, k1, k2], ents⟩⟩ = false := by unfold GV.many; dsimp only; rw [k3, k4, decide_eq_false hn]; rfl
        repeat (first | refine RQ ?_ | ((first | refine WL_Q ?_ | refine WL_Y ?_); (first | refine QW_of (Qt_indexA rfl) ?_ | refine QW_of (Qt_buildA rfl) ?_ | refine QW_of (Qt_ldX rfl) ?_)) | ((first | refine WL_op rfl ?_ | refine WL_yes (h := ?_)); (first | refine OW_callP rfl (hF := in18_fn) (hk := ?_) | refine OW_callP rfl (hF := rMsg_at (by repeat (first | with_reducible exact hMM | apply MsgAt.cons)) n12 n70) (hk := ?_))) | refine RC ?_ | refine WC_region (id := 7) ?_ | refine WC_region (id := 9) ?_ | refine WC_region (id := 11) ?_)
        exact ⟨rfl, _, L, Res2 rfl (resV_tmp rfl) (resV_tmp rfl), (by repeat (first | exact List.Sublist.refl _ | apply List.Sublist.cons)), by rw [fin hm]; rfl, rfl⟩
  · have k4 : (kind == 4) = false := by
      have : kind = 3 := by simpa using k3
      rw [this]; rfl
    by_cases hn : 8 < bins.length
    · have d5 : decide (((bins.length : Nat) : Int) > 8) = true := decide_eq_true (by omega)
      have hm : GV.many ⟨life, chan, false, seq, room, ⟨kind, ver, [r0, r1, r2, r3, r4, r5], time, num, [c0, c1], bins, [t0, t1, t2, t3, t4, t5, t6], [k0, k1, k2], ents⟩⟩ = true := by unfold GV.many; dsimp only; rw [k3, decide_eq_true hn]; rfl
      repeat (first | refine RQ ?_ | ((first | refine WL_Q ?_ | refine WL_Y ?_); (first | refine QW_of (Qt_indexA rfl) ?_ | refine QW_of (Qt_buildA rfl) ?_ | refine QW_of (Qt_ldX rfl) ?_)) | ((first | refine WL_op rfl ?_ | refine WL_yes (h := ?_)); (first | refine OW_callP rfl (hF := in18_fn) (hk := ?_))) | refine RC ?_ | refine WC_region (id := 7) ?_ | refine WC_region (id := 9) ?_ | refine WC_region (id := 10) ?_)
      exact ⟨rfl, _, L, Res2 rfl (resV_tmp rfl) (resV_tmp rfl), (by repeat (first | exact List.Sublist.refl _ | apply List.Sublist.cons)), by rw [show GV.put ⟨life, chan, false, seq, room, ⟨kind, ver, [r0, r1, r2, r3, r4, r5], time, num, [c0, c1], bins, [t0, t1, t2, t3, t4, t5, t6], [k0, k1, k2], ents⟩⟩ = ([], 4) from by simp [GV.put, b1, b2, b4, hm]]; rfl, rfl⟩
    · have d5 : decide (((bins.length : Nat) : Int) > 8) = false := decide_eq_false (by omega)
      have hm : GV.many ⟨life, chan, false, seq, room, ⟨kind, ver, [r0, r1, r2, r3, r4, r5], time, num, [c0, c1], bins, [t0, t1, t2, t3, t4, t5, t6], [k0, k1, k2], ents⟩⟩ = false := by unfold GV.many; dsimp only; rw [k3, k4, decide_eq_false hn]; rfl
      repeat (first | refine RQ ?_ | ((first | refine WL_Q ?_ | refine WL_Y ?_); (first | refine QW_of (Qt_indexA rfl) ?_ | refine QW_of (Qt_buildA rfl) ?_ | refine QW_of (Qt_ldX rfl) ?_)) | ((first | refine WL_op rfl ?_ | refine WL_yes (h := ?_)); (first | refine OW_callP rfl (hF := in18_fn) (hk := ?_) | refine OW_callP rfl (hF := rMsg_at (by repeat (first | with_reducible exact hMM | apply MsgAt.cons)) n12 n70) (hk := ?_))) | refine RC ?_ | refine WC_region (id := 7) ?_ | refine WC_region (id := 9) ?_ | refine WC_region (id := 11) ?_)
      exact ⟨rfl, _, L, Res2 rfl (resV_tmp rfl) (resV_tmp rfl), (by repeat (first | exact List.Sublist.refl _ | apply List.Sublist.cons)), by rw [fin hm]; rfl, rfl⟩
end Go.Proofs.YtakedlockchpcaaGreatDoor
namespace Go.Proofs.YtakedlockchpcaaGreatDoor
open Go.RowKit
namespace W18
noncomputable def xf11 : XF := ⟨Tryz.f11, (Tryz.f11.body).getD .skip, T.ofList [], 27⟩
theorem xf11_ok : GoodF Tryz.prog 11 xf11 := ⟨Tryz.func11, by kernel_rfl, inferInstance, by kernel_rfl⟩
noncomputable def xf29 : XF := ⟨Tryz.f29, (Tryz.f29.body).getD .skip, T.ofList [], 5⟩
theorem xf29_ok : GoodF Tryz.prog 29 xf29 := ⟨Tryz.func29, by kernel_rfl, inferInstance, by kernel_rfl⟩
noncomputable def xf31 : XF := ⟨Tryz.f31, (Tryz.f31.body).getD .skip, T.ofList [], 21⟩
theorem xf31_ok : GoodF Tryz.prog 31 xf31 := ⟨Tryz.func31, by kernel_rfl, inferInstance, by kernel_rfl⟩
noncomputable def xf36 : XF := ⟨Tryz.f36, (Tryz.f36.body).getD .skip, T.ofList [(7, (15, .calm 0 <| .calm 1 <| .calm 2 <| .calm 4 <| .calm 5 <| .calm 6 <| .calm 8 <| .calm 9 <| .calm 11 <| .calm 12 <| .must 3 <| .must 7 <| .must 10 <| .must 13 <| .calm 14 <| .done))], 292742771909329135⟩
theorem xf36_ok : GoodF Tryz.prog 36 xf36 := ⟨Tryz.func36, by kernel_rfl, inferInstance, by kernel_rfl⟩
noncomputable def xf38 : XF := ⟨Tryz.f38, (Tryz.f38.body).getD .skip, T.ofList [], 5471⟩
theorem xf38_ok : GoodF Tryz.prog 38 xf38 := ⟨Tryz.func38, by kernel_rfl, inferInstance, by kernel_rfl⟩
noncomputable def xf40 : XF := ⟨Tryz.f40, (Tryz.f40.body).getD .skip, T.ofList [(4, (14, .calm 0 <| .calm 1 <| .calm 3 <| .calm 4 <| .calm 6 <| .calm 7 <| .calm 8 <| .calm 9 <| .calm 10 <| .calm 13 <| .must 2 <| .must 5 <| .must 11 <| .calm 12 <| .done)), (9, (0, .either 0 (.either 1 (.either 2 (.must 3 <| .must 4 <| .done) 3 (.must 2 <| .must 4 <| .done)) 3 (.must 1 <| .must 2 <| .must 4 <| .done)) 1 (.either 0 (.either 2 (.must 3 <| .must 4 <| .done) 3 (.must 2 <| .must 4 <| .done)) 2 (.must 0 <| .must 3 <| .must 4 <| .done))))], 8841593725⟩
theorem xf40_ok : GoodF Tryz.prog 40 xf40 := ⟨Tryz.func40, by kernel_rfl, inferInstance, by kernel_rfl⟩
noncomputable def xf43 : XF := ⟨Tryz.f43, (Tryz.f43.body).getD .skip, T.ofList [], 1⟩
theorem xf43_ok : GoodF Tryz.prog 43 xf43 := ⟨Tryz.func43, by kernel_rfl, inferInstance, by kernel_rfl⟩
noncomputable def xf44 : XF := ⟨Tryz.f44, (Tryz.f44.body).getD .skip, T.ofList [], 1⟩
theorem xf44_ok : GoodF Tryz.prog 44 xf44 := ⟨Tryz.func44, by kernel_rfl, inferInstance, by kernel_rfl⟩
noncomputable def xf45 : XF := ⟨Tryz.f45, (Tryz.f45.body).getD .skip, T.ofList [(4, (18, .calm 0 <| .calm 1 <| .must 2 <| .calm 3 <| .calm 7 <| .must 4 <| .calm 5 <| .must 6 <| .calm 8 <| .calm 9 <| .calm 10 <| .calm 11 <| .calm 12 <| .calm 13 <| .calm 14 <| .must 15 <| .calm 16 <| .calm 17 <| .done))], 315⟩
theorem xf45_ok : GoodF Tryz.prog 45 xf45 := ⟨Tryz.func45, by kernel_rfl, inferInstance, by kernel_rfl⟩
noncomputable def xf46 : XF := ⟨Tryz.f46, (Tryz.f46.body).getD .skip, T.ofList [], 215⟩
theorem xf46_ok : GoodF Tryz.prog 46 xf46 := ⟨Tryz.func46, by kernel_rfl, inferInstance, by kernel_rfl⟩
noncomputable def xf47 : XF := ⟨Tryz.f47, (Tryz.f47.body).getD .skip, T.ofList [(2, (17, .calm 0 <| .calm 1 <| .calm 2 <| .calm 3 <| .calm 4 <| .calm 5 <| .calm 6 <| .calm 7 <| .calm 8 <| .calm 9 <| .calm 10 <| .calm 11 <| .calm 12 <| .calm 13 <| .calm 14 <| .calm 15 <| .must 16 <| .done)), (8, (8, .calm 0 <| .calm 1 <| .calm 2 <| .calm 3 <| .calm 4 <| .calm 5 <| .calm 6 <| .must 7 <| .done))], 297471780385420476419⟩
theorem xf47_ok : GoodF Tryz.prog 47 xf47 := ⟨Tryz.func47, by kernel_rfl, inferInstance, by kernel_rfl⟩
noncomputable def xf54 : XF := ⟨Tryz.f54, (Tryz.f54.body).getD .skip, T.ofList [(1, (8, .calm 0 <| .calm 1 <| .calm 2 <| .calm 3 <| .calm 4 <| .calm 5 <| .calm 6 <| .must 7 <| .done)), (2, (8, .calm 0 <| .calm 1 <| .calm 2 <| .calm 3 <| .calm 4 <| .calm 5 <| .calm 6 <| .must 7 <| .done)), (3, (8, .calm 0 <| .calm 1 <| .calm 2 <| .calm 3 <| .calm 4 <| .calm 5 <| .calm 6 <| .must 7 <| .done)), (4, (8, .calm 0 <| .calm 1 <| .calm 2 <| .calm 3 <| .calm 4 <| .calm 5 <| .calm 6 <| .must 7 <| .done)), (5, (8, .calm 0 <| .calm 1 <| .calm 2 <| .calm 3 <| .calm 4 <| .calm 5 <| .calm 6 <| .must 7 <| .done))], 3⟩
theorem xf54_ok : GoodF Tryz.prog 54 xf54 := ⟨Tryz.func54, by kernel_rfl, inferInstance, by kernel_rfl⟩
noncomputable def xf57 : XF := ⟨Tryz.f57, (Tryz.f57.body).getD .skip, T.ofList [(1, (8, .calm 0 <| .calm 1 <| .calm 2 <| .calm 3 <| .calm 4 <| .calm 5 <| .calm 6 <| .must 7 <| .done))], 3⟩
theorem xf57_ok : GoodF Tryz.prog 57 xf57 := ⟨Tryz.func57, by kernel_rfl, inferInstance, by kernel_rfl⟩
noncomputable def xf59 : XF := ⟨Tryz.f59, (Tryz.f59.body).getD .skip, T.ofList [(1, (8, .calm 0 <| .calm 1 <| .calm 2 <| .calm 3 <| .calm 4 <| .calm 5 <| .calm 6 <| .must 7 <| .done)), (2, (8, .calm 0 <| .calm 1 <| .calm 2 <| .calm 3 <| .calm 4 <| .calm 5 <| .calm 6 <| .must 7 <| .done))], 3⟩
theorem xf59_ok : GoodF Tryz.prog 59 xf59 := ⟨Tryz.func59, by kernel_rfl, inferInstance, by kernel_rfl⟩
noncomputable def xf61 : XF := ⟨Tryz.f61, (Tryz.f61.body).getD .skip, T.ofList [(2, (8, .calm 0 <| .calm 1 <| .calm 2 <| .calm 3 <| .calm 4 <| .calm 5 <| .calm 6 <| .must 7 <| .done)), (3, (8, .calm 0 <| .calm 1 <| .calm 2 <| .calm 3 <| .calm 4 <| .calm 5 <| .calm 6 <| .must 7 <| .done)), (4, (8, .calm 0 <| .calm 1 <| .calm 2 <| .calm 3 <| .calm 4 <| .calm 5 <| .calm 6 <| .must 7 <| .done))], 3⟩
theorem xf61_ok : GoodF Tryz.prog 61 xf61 := ⟨Tryz.func61, by kernel_rfl, inferInstance, by kernel_rfl⟩
noncomputable def xf63 : XF := ⟨Tryz.f63, (Tryz.f63.body).getD .skip, T.ofList [(0, (8, .calm 0 <| .calm 1 <| .calm 2 <| .calm 3 <| .calm 4 <| .calm 5 <| .calm 6 <| .must 7 <| .done)), (1, (8, .calm 0 <| .calm 1 <| .calm 2 <| .calm 3 <| .calm 4 <| .calm 5 <| .calm 6 <| .must 7 <| .done)), (2, (8, .calm 0 <| .calm 1 <| .calm 2 <| .calm 3 <| .calm 4 <| .calm 5 <| .calm 6 <| .must 7 <| .done)), (3, (8, .calm 0 <| .calm 1 <| .calm 2 <| .calm 3 <| .calm 4 <| .calm 5 <| .calm 6 <| .must 7 <| .done)), (4, (8, .calm 0 <| .calm 1 <| .calm 2 <| .calm 3 <| .calm 4 <| .calm 5 <| .calm 6 <| .must 7 <| .done))], 3⟩
theorem xf63_ok : GoodF Tryz.prog 63 xf63 := ⟨Tryz.func63, by kernel_rfl, inferInstance, by kernel_rfl⟩
noncomputable def xf65 : XF := ⟨Tryz.f65, (Tryz.f65.body).getD .skip, T.ofList [(2, (8, .calm 0 <| .calm 1 <| .calm 2 <| .calm 3 <| .calm 4 <| .calm 5 <| .calm 6 <| .must 7 <| .done))], 3⟩
theorem xf65_ok : GoodF Tryz.prog 65 xf65 := ⟨Tryz.func65, by kernel_rfl, inferInstance, by kernel_rfl⟩
noncomputable def xf67 : XF := ⟨Tryz.f67, (Tryz.f67.body).getD .skip, T.ofList [], 13⟩
theorem xf67_ok : GoodF Tryz.prog 67 xf67 := ⟨Tryz.func67, by kernel_rfl, inferInstance, by kernel_rfl⟩
noncomputable def xf87 : XF := ⟨Tryz.f87, (Tryz.f87.body).getD .skip, T.ofList [], 7⟩
theorem xf87_ok : GoodF Tryz.prog 87 xf87 := ⟨Tryz.func87, by kernel_rfl, inferInstance, by kernel_rfl⟩
noncomputable def xf88 : XF := ⟨Tryz.f88, (Tryz.f88.body).getD .skip, T.ofList [(9, (10, .calm 0 <| .calm 1 <| .calm 2 <| .calm 3 <| .calm 4 <| .calm 5 <| .calm 6 <| .calm 7 <| .must 8 <| .calm 9 <| .done))], 32883⟩
theorem xf88_ok : GoodF Tryz.prog 88 xf88 := ⟨Tryz.func88, by kernel_rfl, inferInstance, by kernel_rfl⟩
noncomputable def xf89 : XF := ⟨Tryz.f89, (Tryz.f89.body).getD .skip, T.ofList [], 51⟩
theorem xf89_ok : GoodF Tryz.prog 89 xf89 := ⟨Tryz.func89, by kernel_rfl, inferInstance, by kernel_rfl⟩
noncomputable def xf92 : XF := ⟨Tryz.f92, (Tryz.f92.body).getD .skip, T.ofList [], 23⟩
theorem xf92_ok : GoodF Tryz.prog 92 xf92 := ⟨Tryz.func92, by kernel_rfl, inferInstance, by kernel_rfl⟩
noncomputable def xf93 : XF := ⟨Tryz.f93, (Tryz.f93.body).getD .skip, T.ofList [], 127⟩
theorem xf93_ok : GoodF Tryz.prog 93 xf93 := ⟨Tryz.func93, by kernel_rfl, inferInstance, by kernel_rfl⟩
noncomputable def xf94 : XF := ⟨Tryz.f94, (Tryz.f94.body).getD .skip, T.ofList [], 7⟩
theorem xf94_ok : GoodF Tryz.prog 94 xf94 := ⟨Tryz.func94, by kernel_rfl, inferInstance, by kernel_rfl⟩
noncomputable def xf95 : XF := ⟨Tryz.f95, (Tryz.f95.body).getD .skip, T.ofList [(2, (13, .calm 0 <| .calm 2 <| .calm 3 <| .calm 4 <| .calm 5 <| .calm 6 <| .calm 7 <| .calm 8 <| .calm 9 <| .calm 10 <| .calm 11 <| .must 1 <| .must 12 <| .done)), (3, (12, .calm 0 <| .calm 1 <| .calm 2 <| .calm 3 <| .calm 4 <| .calm 5 <| .calm 6 <| .calm 7 <| .calm 8 <| .calm 9 <| .calm 10 <| .must 11 <| .done)), (5, (12, .calm 0 <| .calm 1 <| .calm 2 <| .calm 3 <| .calm 4 <| .calm 5 <| .calm 6 <| .calm 7 <| .calm 8 <| .calm 9 <| .calm 10 <| .calm 11 <| .must 12 <| .done))], 13⟩
theorem xf95_ok : GoodF Tryz.prog 95 xf95 := ⟨Tryz.func95, by kernel_rfl, inferInstance, by kernel_rfl⟩
noncomputable def xf96 : XF := ⟨Tryz.f96, (Tryz.f96.body).getD .skip, T.ofList [], 7⟩
theorem xf96_ok : GoodF Tryz.prog 96 xf96 := ⟨Tryz.func96, by kernel_rfl, inferInstance, by kernel_rfl⟩
noncomputable def xf97 : XF := ⟨Tryz.f97, (Tryz.f97.body).getD .skip, T.ofList [], 61⟩
theorem xf97_ok : GoodF Tryz.prog 97 xf97 := ⟨Tryz.func97, by kernel_rfl, inferInstance, by kernel_rfl⟩
noncomputable def xf98 : XF := ⟨Tryz.f98, (Tryz.f98.body).getD .skip, T.ofList [(2, (13, .calm 0 <| .calm 2 <| .calm 3 <| .calm 4 <| .calm 5 <| .calm 6 <| .calm 7 <| .calm 8 <| .calm 9 <| .calm 10 <| .calm 11 <| .must 1 <| .must 12 <| .done))], 5⟩
theorem xf98_ok : GoodF Tryz.prog 98 xf98 := ⟨Tryz.func98, by kernel_rfl, inferInstance, by kernel_rfl⟩
noncomputable def xf99 : XF := ⟨Tryz.f99, (Tryz.f99.body).getD .skip, T.ofList [], 34368129779⟩
theorem xf99_ok : GoodF Tryz.prog 99 xf99 := ⟨Tryz.func99, by kernel_rfl, inferInstance, by kernel_rfl⟩
noncomputable def xf100 : XF := ⟨Tryz.f100, (Tryz.f100.body).getD .skip, T.ofList [], 2099⟩
theorem xf100_ok : GoodF Tryz.prog 100 xf100 := ⟨Tryz.func100, by kernel_rfl, inferInstance, by kernel_rfl⟩
noncomputable def xf101 : XF := ⟨Tryz.f101, (Tryz.f101.body).getD .skip, T.ofList [], 19⟩
theorem xf101_ok : GoodF Tryz.prog 101 xf101 := ⟨Tryz.func101, by kernel_rfl, inferInstance, by kernel_rfl⟩
noncomputable def xf102 : XF := ⟨Tryz.f102, (Tryz.f102.body).getD .skip, T.ofList [], 19⟩
theorem xf102_ok : GoodF Tryz.prog 102 xf102 := ⟨Tryz.func102, by kernel_rfl, inferInstance, by kernel_rfl⟩
noncomputable def xf103 : XF := ⟨Tryz.f103, (Tryz.f103.body).getD .skip, T.ofList [], 69189240591⟩
theorem xf103_ok : GoodF Tryz.prog 103 xf103 := ⟨Tryz.func103, by kernel_rfl, inferInstance, by kernel_rfl⟩
noncomputable def xf104 : XF := ⟨Tryz.f104, (Tryz.f104.body).getD .skip, T.ofList [(9, (8, .calm 0 <| .calm 1 <| .calm 2 <| .calm 3 <| .calm 4 <| .must 5 <| .must 6 <| .calm 7 <| .must 8 <| .done))], 69189240591⟩
theorem xf104_ok : GoodF Tryz.prog 104 xf104 := ⟨Tryz.func104, by kernel_rfl, inferInstance, by kernel_rfl⟩
noncomputable def xf106 : XF := ⟨Tryz.f106, (Tryz.f106.body).getD .skip, T.ofList [], 51⟩
theorem xf106_ok : GoodF Tryz.prog 106 xf106 := ⟨Tryz.func106, by kernel_rfl, inferInstance, by kernel_rfl⟩
noncomputable def xf124 : XF := ⟨Tryz.f124, (Tryz.f124.body).getD .skip, T.ofList [], 1048703⟩
theorem xf124_ok : GoodF Tryz.prog 124 xf124 := ⟨Tryz.func124, by kernel_rfl, inferInstance, by kernel_rfl⟩
noncomputable def xf125 : XF := ⟨Tryz.f125, (Tryz.f125.body).getD .skip, T.ofList [], 16541⟩
theorem xf125_ok : GoodF Tryz.prog 125 xf125 := ⟨Tryz.func125, by kernel_rfl, inferInstance, by kernel_rfl⟩
noncomputable def xf126 : XF := ⟨Tryz.f126, (Tryz.f126.body).getD .skip, T.ofList [], 21⟩
theorem xf126_ok : GoodF Tryz.prog 126 xf126 := ⟨Tryz.func126, by kernel_rfl, inferInstance, by kernel_rfl⟩
noncomputable def xf127 : XF := ⟨Tryz.f127, (Tryz.f127.body).getD .skip, T.ofList [], 135⟩
theorem xf127_ok : GoodF Tryz.prog 127 xf127 := ⟨Tryz.func127, by kernel_rfl, inferInstance, by kernel_rfl⟩
noncomputable def xf128 : XF := ⟨Tryz.f128, (Tryz.f128.body).getD .skip, T.ofList [(5, (12, .calm 0 <| .calm 1 <| .calm 2 <| .calm 3 <| .calm 4 <| .calm 5 <| .calm 6 <| .calm 7 <| .calm 8 <| .calm 9 <| .calm 10 <| .must 11 <| .done)), (8, (20, .calm 0 <| .calm 1 <| .calm 2 <| .calm 3 <| .calm 4 <| .calm 5 <| .calm 6 <| .calm 7 <| .calm 8 <| .calm 9 <| .calm 10 <| .calm 11 <| .calm 12 <| .calm 13 <| .calm 14 <| .calm 15 <| .calm 16 <| .calm 17 <| .calm 18 <| .must 19 <| .done)), (9, (13, .calm 0 <| .calm 1 <| .calm 2 <| .calm 3 <| .calm 4 <| .calm 5 <| .calm 6 <| .calm 7 <| .calm 8 <| .calm 9 <| .calm 12 <| .must 10 <| .calm 11 <| .done))], 4642275147320176030938824797⟩
theorem xf128_ok : GoodF Tryz.prog 128 xf128 := ⟨Tryz.func128, by kernel_rfl, inferInstance, by kernel_rfl⟩
noncomputable def xf132 : XF := ⟨Tryz.f132, (Tryz.f132.body).getD .skip, T.ofList [], 1193287703199244111⟩
theorem xf132_ok : GoodF Tryz.prog 132 xf132 := ⟨Tryz.func132, by kernel_rfl, inferInstance, by kernel_rfl⟩
noncomputable def xf134 : XF := ⟨Tryz.f134, (Tryz.f134.body).getD .skip, T.ofList [], 4639143427053511⟩
theorem xf134_ok : GoodF Tryz.prog 134 xf134 := ⟨Tryz.func134, by kernel_rfl, inferInstance, by kernel_rfl⟩
noncomputable def xf136 : XF := ⟨Tryz.f136, (Tryz.f136.body).getD .skip, T.ofList [], 3451⟩
theorem xf136_ok : GoodF Tryz.prog 136 xf136 := ⟨Tryz.func136, by kernel_rfl, inferInstance, by kernel_rfl⟩
noncomputable def xf166 : XF := ⟨Tryz.f166, (Tryz.f166.body).getD .skip, T.ofList [], 5⟩
theorem xf166_ok : GoodF Tryz.prog 166 xf166 := ⟨Tryz.func166, by kernel_rfl, inferInstance, by kernel_rfl⟩
noncomputable def xf167 : XF := ⟨Tryz.f167, (Tryz.f167.body).getD .skip, T.ofList [], 1⟩
theorem xf167_ok : GoodF Tryz.prog 167 xf167 := ⟨Tryz.func167, by kernel_rfl, inferInstance, by kernel_rfl⟩
noncomputable def xf168 : XF := ⟨Tryz.f168, (Tryz.f168.body).getD .skip, T.ofList [], 7⟩
theorem xf168_ok : GoodF Tryz.prog 168 xf168 := ⟨Tryz.func168, by kernel_rfl, inferInstance, by kernel_rfl⟩
noncomputable def xf169 : XF := ⟨Tryz.f169, (Tryz.f169.body).getD .skip, T.ofList [(0, (11, .calm 0 <| .calm 1 <| .calm 2 <| .calm 3 <| .calm 4 <| .calm 5 <| .calm 6 <| .calm 7 <| .must 8 <| .calm 9 <| .calm 10 <| .must 11 <| .done))], 3⟩
theorem xf169_ok : GoodF Tryz.prog 169 xf169 := ⟨Tryz.func169, by kernel_rfl, inferInstance, by kernel_rfl⟩
noncomputable def xf170 : XF := ⟨Tryz.f170, (Tryz.f170.body).getD .skip, T.ofList [(0, (12, .calm 0 <| .calm 1 <| .calm 2 <| .calm 3 <| .calm 4 <| .calm 5 <| .calm 6 <| .calm 7 <| .must 8 <| .must 9 <| .calm 10 <| .calm 11 <| .must 12 <| .done))], 3⟩
theorem xf170_ok : GoodF Tryz.prog 170 xf170 := ⟨Tryz.func170, by kernel_rfl, inferInstance, by kernel_rfl⟩
noncomputable def xf171 : XF := ⟨Tryz.f171, (Tryz.f171.body).getD .skip, T.ofList [(0, (11, .calm 0 <| .calm 1 <| .calm 2 <| .calm 3 <| .calm 4 <| .calm 5 <| .calm 6 <| .calm 7 <| .must 8 <| .calm 9 <| .calm 10 <| .must 11 <| .done))], 3⟩
theorem xf171_ok : GoodF Tryz.prog 171 xf171 := ⟨Tryz.func171, by kernel_rfl, inferInstance, by kernel_rfl⟩
noncomputable def xf172 : XF := ⟨Tryz.f172, (Tryz.f172.body).getD .skip, T.ofList [(0, (11, .calm 0 <| .calm 1 <| .calm 2 <| .calm 3 <| .calm 4 <| .calm 5 <| .calm 6 <| .calm 7 <| .must 8 <| .calm 9 <| .calm 10 <| .must 11 <| .done))], 3⟩
theorem xf172_ok : GoodF Tryz.prog 172 xf172 := ⟨Tryz.func172, by kernel_rfl, inferInstance, by kernel_rfl⟩
noncomputable def xf173 : XF := ⟨Tryz.f173, (Tryz.f173.body).getD .skip, T.ofList [], 19⟩
theorem xf173_ok : GoodF Tryz.prog 173 xf173 := ⟨Tryz.func173, by kernel_rfl, inferInstance, by kernel_rfl⟩
noncomputable def xf174 : XF := ⟨Tryz.f174, (Tryz.f174.body).getD .skip, T.ofList [], 1⟩
theorem xf174_ok : GoodF Tryz.prog 174 xf174 := ⟨Tryz.func174, by kernel_rfl, inferInstance, by kernel_rfl⟩
noncomputable def xf175 : XF := ⟨Tryz.f175, (Tryz.f175.body).getD .skip, T.ofList [], 135⟩
theorem xf175_ok : GoodF Tryz.prog 175 xf175 := ⟨Tryz.func175, by kernel_rfl, inferInstance, by kernel_rfl⟩
noncomputable def xf176 : XF := ⟨Tryz.f176, (Tryz.f176.body).getD .skip, T.ofList [], 3⟩
theorem xf176_ok : GoodF Tryz.prog 176 xf176 := ⟨Tryz.func176, by kernel_rfl, inferInstance, by kernel_rfl⟩
noncomputable def xf177 : XF := ⟨Tryz.f177, (Tryz.f177.body).getD .skip, T.ofList [], 3⟩
theorem xf177_ok : GoodF Tryz.prog 177 xf177 := ⟨Tryz.func177, by kernel_rfl, inferInstance, by kernel_rfl⟩
noncomputable def xf178 : XF := ⟨Tryz.f178, (Tryz.f178.body).getD .skip, T.ofList [], 3⟩
theorem xf178_ok : GoodF Tryz.prog 178 xf178 := ⟨Tryz.func178, by kernel_rfl, inferInstance, by kernel_rfl⟩
noncomputable def xf179 : XF := ⟨Tryz.f179, (Tryz.f179.body).getD .skip, T.ofList [], 3⟩
theorem xf179_ok : GoodF Tryz.prog 179 xf179 := ⟨Tryz.func179, by kernel_rfl, inferInstance, by kernel_rfl⟩
noncomputable def xf180 : XF := ⟨Tryz.f180, (Tryz.f180.body).getD .skip, T.ofList [], 4211⟩
theorem xf180_ok : GoodF Tryz.prog 180 xf180 := ⟨Tryz.func180, by kernel_rfl, inferInstance, by kernel_rfl⟩
noncomputable def xf181 : XF := ⟨Tryz.f181, (Tryz.f181.body).getD .skip, T.ofList [], 4211⟩
theorem xf181_ok : GoodF Tryz.prog 181 xf181 := ⟨Tryz.func181, by kernel_rfl, inferInstance, by kernel_rfl⟩
noncomputable def xf182 : XF := ⟨Tryz.f182, (Tryz.f182.body).getD .skip, T.ofList [(2, (13, .calm 0 <| .calm 2 <| .calm 3 <| .calm 4 <| .calm 5 <| .calm 6 <| .calm 7 <| .calm 8 <| .calm 9 <| .calm 10 <| .calm 11 <| .must 1 <| .must 12 <| .done)), (4, (11, .calm 0 <| .calm 1 <| .calm 2 <| .calm 3 <| .calm 4 <| .calm 5 <| .calm 6 <| .calm 7 <| .calm 8 <| .calm 9 <| .calm 10 <| .must 11 <| .done))], 13⟩
theorem xf182_ok : GoodF Tryz.prog 182 xf182 := ⟨Tryz.func182, by kernel_rfl, inferInstance, by kernel_rfl⟩
noncomputable def xf183 : XF := ⟨Tryz.f183, (Tryz.f183.body).getD .skip, T.ofList [], 4211⟩
theorem xf183_ok : GoodF Tryz.prog 183 xf183 := ⟨Tryz.func183, by kernel_rfl, inferInstance, by kernel_rfl⟩
noncomputable def xf184 : XF := ⟨Tryz.f184, (Tryz.f184.body).getD .skip, T.ofList [], 4211⟩
theorem xf184_ok : GoodF Tryz.prog 184 xf184 := ⟨Tryz.func184, by kernel_rfl, inferInstance, by kernel_rfl⟩
noncomputable def xf185 : XF := ⟨Tryz.f185, (Tryz.f185.body).getD .skip, T.ofList [], 61⟩
theorem xf185_ok : GoodF Tryz.prog 185 xf185 := ⟨Tryz.func185, by kernel_rfl, inferInstance, by kernel_rfl⟩
noncomputable def tabL : List (Nat × XF) := [(11, xf11), (29, xf29), (31, xf31), (36, xf36), (38, xf38), (40, xf40), (43, xf43), (44, xf44), (45, xf45), (46, xf46), (47, xf47), (54, xf54), (57, xf57), (59, xf59), (61, xf61), (63, xf63), (65, xf65), (67, xf67), (87, xf87), (88, xf88), (89, xf89), (92, xf92), (93, xf93), (94, xf94), (95, xf95), (96, xf96), (97, xf97), (98, xf98), (99, xf99), (100, xf100), (101, xf101), (102, xf102), (103, xf103), (104, xf104), (106, xf106), (124, xf124), (125, xf125), (126, xf126), (127, xf127), (128, xf128), (132, xf132), (134, xf134), (136, xf136), (166, xf166), (167, xf167), (168, xf168), (169, xf169), (170, xf170), (171, xf171), (172, xf172), (173, xf173), (174, xf174), (175, xf175), (176, xf176), (177, xf177), (178, xf178), (179, xf179), (180, xf180), (181, xf181), (182, xf182), (183, xf183), (184, xf184), (185, xf185)]
noncomputable def tab : T XF := T.ofList tabL
theorem tab_ok : ∀ f x, tab.get f = some x → GoodF Tryz.prog f x := fun f x h => GoodL.mem (l := tabL) ⟨xf11_ok, xf29_ok, xf31_ok, xf36_ok, xf38_ok, xf40_ok, xf43_ok, xf44_ok, xf45_ok, xf46_ok, xf47_ok, xf54_ok, xf57_ok, xf59_ok, xf61_ok, xf63_ok, xf65_ok, xf67_ok, xf87_ok, xf88_ok, xf89_ok, xf92_ok, xf93_ok, xf94_ok, xf95_ok, xf96_ok, xf97_ok, xf98_ok, xf99_ok, xf100_ok, xf101_ok, xf102_ok, xf103_ok, xf104_ok, xf106_ok, xf124_ok, xf125_ok, xf126_ok, xf127_ok, xf128_ok, xf132_ok, xf134_ok, xf136_ok, xf166_ok, xf167_ok, xf168_ok, xf169_ok, xf170_ok, xf171_ok, xf172_ok, xf173_ok, xf174_ok, xf175_ok, xf176_ok, xf177_ok, xf178_ok, xf179_ok, xf180_ok, xf181_ok, xf182_ok, xf183_ok, xf184_ok, xf185_ok, trivial⟩ (f, x) (T.get_ofList h)
theorem works_run : trueG Tryz.prog tab 100000 doorPr doorH 200 38 = true := by kernel_rfl
end W18
theorem works18_fn {L : List (Nat × Obj)} (h : HandleIn L) : Fn Tryz.prog 38 [] L (fun v L' => v = .bool true ∧ L' = L) := by
  obtain ⟨cs, E, fr, h1, h2⟩ := h
  exact runD doorPr_ok mixed W18.tab_ok (doorH_cov h2) doorH_zero W18.works_run h1
end Go.Proofs.YtakedlockchpcaaGreatDoor
namespace Go.Proofs.YtakedlockchpcaaGreatDoor
open Go.RowKit
theorem Qt_indexX {c : Cx} {s : List (Nat × Value)} {L : List (Nat × Obj)} {o : Oper} {t len E n : Nat} [TUnd c.P t (.array len E)] [TSize c.P E n] [TAgg c.P E true] {x y : Operand} {k : IntKind} {i : Int} {vs ws : Array Value} (ho : o.op = .index t x y) (hx : ev s x = some (.agg vs) := by exact rfl) (hy : ev s y = some (.int k i) := by exact rfl) (hv : vs.extract (i.toNat * n) (i.toNat * n + n) = ws := by with_reducible assumption) (h0 : 0 ≤ i := by first | decide | with_reducible assumption | omega) (h1 : i < len := by first | decide | with_reducible assumption | omega) : Qt c s L o (.agg ws) := by
  subst hv
  exact Qt_indexA ho hx hy h0 h1
attribute [local irreducible] Fn WC WL WR OW Qt YieldFn QW FnP FnD FnE
instance : TBuildA Tryz.prog 85 zc85 29 := ⟨fun _ => by kernel_rfl⟩
theorem GV.few_len (g : GV) : (g.few 10 70).m.bins.length ≤ 1000 ∧ (g.few 10 70).m.ents.length ≤ 1000 := by
  unfold GV.few MV.few
  simp only [List.length_take]
  omega
theorem GV.draft_len (g : GV) (odd : Bool) : (g.draft odd).m.bins.length ≤ 1000 ∧ (g.draft odd).m.ents.length ≤ 1000 := by
  unfold GV.draft
  split
  · exact g.few_len
  · unfold MV.few
    simp only [List.length_take]
    omega
theorem fill2 {z xs ys : Array Value} {n : Nat} (hz : z.size = n + n) (h1 : xs.size = n) (h2 : ys.size = n) : FilledA n z [(0, .agg xs), (1, .agg ys)] (xs ++ ys) := by
  have e0 : (putR z (0 * n) xs).size = n + n := by rw [putR_size _ _ _ (by omega)]; exact hz
  refine ⟨h1, by omega, h2, by show 1 * n + n ≤ (putR z (0 * n) xs).size; omega, ?_⟩
  show xs ++ ys = putR (putR z (0 * n) xs) (1 * n) ys
  apply Array.ext'
  simp only [putR, Array.toList_append, Nat.zero_mul, Nat.one_mul, Nat.zero_add, List.take_zero, List.nil_append]
  have l1 : xs.toList.length = n := by simpa using h1
  have l2 : ys.toList.length = n := by simpa using h2
  have l3 : z.toList.length = n + n := by simpa using hz
  rw [h1, h2]
  rw [List.take_append_of_le_length (by omega), List.take_of_length_le (by omega)]
  rw [List.drop_eq_nil_of_le (by simp only [List.length_append, List.length_drop]; omega), List.append_nil]
set_option maxRecDepth 100000 in
set_option maxHeartbeats 16000000 in
theorem gputs_fn {gs ds : Array Value} {g0 d : GV} {odd : Bool} {a a' b b' : Option Addr} {cap cap' bcap bcap' : Nat} {L : List (Nat × Obj)} (hH : HandleIn L) (hG : GramAt L gs g0 a cap a' cap') (hD : GramAt L ds d b bcap b' bcap') :
    Fn Tryz.prog 6 [.agg gs, .agg (ds.push (.bool odd))] L (fun v L' => v = .bool true ∧ L' = L) := by
  have z1 := hG.size
  have o1 := hG.one
  have z2 : (ds.push (.bool odd)).size = 30 := by rw [Array.size_push, hD.size]
  have o2 : ((ds.push (.bool odd)).toList.all fun v => v.oneCell') = true := by rw [Array.toList_push, List.all_append, hD.one]; rfl
  refine Fn_enter Tryz.func6 rfl Tryz.ntmps6 rfl fun g => ?_
  repeat (first | refine RQr ?_ | ((first | refine WL_Q ?_ | refine WR_Q rfl ?_ | refine WR_late rfl rfl rfl (OW_Q ?_)); (first | refine QW_of (Qt_indexX rfl) ?_ | refine QW_of (Qt_buildA rfl (hf := hfill)) ?_)) | ((first | refine WL_op rfl ?_ | refine WR_late rfl rfl rfl ?_ | refine WR_opG rfl rfl ?_); (first | (refine OE ?_; try intro _) | (refine OW_call rfl (hF := few18_fn hG _) (hk := ?_); rintro _ _ ⟨gs2, rfl, rfl, hG2⟩) | (refine OW_call rfl (hF := drafted_fn hD _) (hk := ?_); rintro _ _ ⟨ds2, rfl, rfl, hD2⟩)); try refine SD ?_) | refine RC ?_ | refine RU ?_ | refine WC_draw_all (id := 1) 6 (.calm 0 <| .calm 2 <| .calm 5 <| .must 1 <| .must 3 <| .calm 4 <| .done) mixed (by kernel_rfl) ?_ | refine WC_region (id := 0) ?_)
  have y1 := hG2.size
  have y2 := hD2.size
  have p1 := hG2.one
  have p2 := hD2.one
  have hfill := fill2 (z := zc85) (by rfl) y1 y2
  have e0 : (gs2 ++ ds2).extract ((0 : Int).toNat * 29) ((0 : Int).toNat * 29 + 29) = gs2 := by
    show (gs2 ++ ds2).extract 0 29 = gs2
    rw [← y1]; simp
  have e1 : (gs2 ++ ds2).extract ((IntKind.i64.wrap (0 + 1)).toNat * 29) ((IntKind.i64.wrap (0 + 1)).toNat * 29 + 29) = ds2 := by
    show (gs2 ++ ds2).extract 29 58 = ds2
    have : (58 : Nat) = gs2.size + ds2.size := by omega
    rw [this, ← y1]; simp
  repeat (first | refine RQr ?_ | ((first | refine WL_Q ?_ | refine WR_Q rfl ?_ | refine WR_late rfl rfl rfl (OW_Q ?_)); (first | refine QW_of (Qt_indexX rfl) ?_ | refine QW_of (Qt_buildA rfl (hf := hfill)) ?_)) | ((first | refine WL_op rfl ?_ | refine WR_late rfl rfl rfl ?_ | refine WR_opG rfl rfl ?_); (first | (refine OE ?_; try intro _) | (refine OW_call rfl (hF := few18_fn hG _) (hk := ?_); rintro _ _ ⟨gs2, rfl, rfl, hG2⟩) | (refine OW_call rfl (hF := drafted_fn hD _) (hk := ?_); rintro _ _ ⟨ds2, rfl, rfl, hD2⟩)); try refine SD ?_) | refine RC ?_ | refine RU ?_ | refine WC_draw_all (id := 1) 6 (.calm 0 <| .calm 2 <| .calm 5 <| .must 1 <| .must 3 <| .calm 4 <| .done) mixed (by kernel_rfl) ?_ | refine WC_region (id := 0) ?_)
  refine WC_unroll 3 (WCn_s ?_)
  have q1 : (!((g0.few 10 70).put.1 == (g0.few 10 70).put.1)) = false := by simp
  have q2 : ((((g0.few 10 70).put.2 : Nat) : Int) != (((g0.few 10 70).put.2 : Nat) : Int)) = false := by simp
  have q3 : (!((d.draft odd).put.1 == (d.draft odd).put.1)) = false := by simp
  have q4 : ((((d.draft odd).put.2 : Nat) : Int) != (((d.draft odd).put.2 : Nat) : Int)) = false := by simp
  repeat (first | refine RQ ?_ | ((first | refine WL_Q ?_ | refine WL_Y ?_); (first | refine QW_of (Qt_indexX rfl) ?_ | refine QW_of (Qt_buildA rfl (hf := hfill)) ?_)) | (refine RE ?_; try intro _) | ((first | refine WL_op rfl ?_ | refine WL_yes (h := ?_)); (first | refine OW_callP rfl (hF := works18_fn (by repeat (first | with_reducible assumption | apply HandleIn.cons))) (hk := ?_) | refine OW_callP rfl (hF := Put_fn (by repeat (first | with_reducible exact hG2 | apply GramAt.cons)) g0.few_len.1 g0.few_len.2) (hk := ?_) | refine OW_callP rfl (hF := Put_fn (by repeat (first | with_reducible exact hD2 | apply GramAt.cons)) (d.draft_len odd).1 (d.draft_len odd).2) (hk := ?_) | refine OW_callP rfl (hF := rPut_fn (by repeat (first | with_reducible exact hG2 | apply GramAt.cons)) g0.few_len.1 g0.few_len.2) (hk := ?_) | refine OW_callP rfl (hF := rPut_fn (by repeat (first | with_reducible exact hD2 | apply GramAt.cons)) (d.draft_len odd).1 (d.draft_len odd).2) (hk := ?_))) | refine RC ?_ | refine WC_region (id := 2) ?_ | refine WC_region (id := 3) ?_ | refine WC_region (id := 4) ?_ | refine WC_region (id := 5) ?_ | refine WC_region (id := 6) ?_ | refine WC_region (id := 8) ?_ | refine WC_region (id := 9) ?_)
  first | exact ⟨rfl, _, L, Res1 rfl (resV_tmp rfl), by repeat (first | exact List.Sublist.refl _ | apply List.Sublist.cons), rfl, rfl⟩ | (first | refine sWR ?_ | refine sWL ?_ | refine sWL0 ?_ | refine sOW ?_ | refine sWC1 ?_ | refine sWC2 ?_ | refine sWC3 ?_ | refine sWC4 ?_); done
end Go.Proofs.YtakedlockchpcaaGreatDoor
namespace Go.Proofs.YtakedlockchpcaaGreatDoor
open Go.ChangeShapes Go.WideShapes Go.ChangeAt Go.RowKit
theorem ownOf : ownKnob Tryz.prog.godebug = none := by kernel_rfl
theorem laidOf : laidOutB Tryz.prog = true := by kernel_rfl
def allL (W : World) : List (Nat × Obj) := W.heap.toList.zipIdx.map fun p => (p.2, p.1)
theorem allL_get {W : World} {b : Nat} {o : Obj} (h : W.heap[b]? = some o) : (allL W)[b]? = some (b, o) := by
  simp [allL, h]
theorem allL_mem {W : World} {p : Nat × Obj} : p ∈ allL W → W.heap[p.1]? = some p.2 := fun h => by
  simp only [allL, List.mem_map] at h
  obtain ⟨⟨o, b⟩, h1, rfl⟩ := h
  have := List.mem_zipIdx_iff_getElem?.1 h1
  simpa using this
theorem allL_mem_of {W : World} {b : Nat} {o : Obj} (h : W.heap[b]? = some o) : (b, o) ∈ allL W := List.mem_of_getElem? (allL_get h)
theorem mem_allL (W : World) : Mem W (allL W) W where
  os := rfl
  tape := rfl
  output := rfl
  size := Nat.le_refl _
  nodup := by
    have : (allL W).map Prod.fst = List.range W.heap.size := by
      simp only [allL, List.map_map]
      apply List.ext_getElem?
      intro i
      simp only [List.getElem?_map, List.getElem?_zipIdx, Array.getElem?_toList]
      by_cases h : i < W.heap.size
      · simp [h]
      · simp [h]
    rw [this]; exact List.nodup_range
  has := fun _ h => allL_mem h
theorem below_of_mem {W W' : World} (h : Mem W (allL W) W') : Below W.heap.size W W' where
  os := h.os
  tape := h.tape
  output := h.output
  size := h.size
  block := fun k hk => by
    have h1 : W.heap[k]? = some W.heap[k] := Array.getElem?_eq_getElem hk
    rw [h1]
    exact h.has (k, W.heap[k]) (allL_mem_of h1)
theorem trodAll_stays {H : Type} {enc : TypeId × Value → H} {P : Program} (hl : laidOutB P = true) {W W' : World} (hb : Below W.heap.size W W') : ∀ {ts : List TypeId} {vs : List Value} {ds : List (DataW H)} {ps : List MemPlace},
    (∀ t ∈ ts, P.readableRec t = true ∧ t < P.types.size) → DataW.TrodAll enc P W 0 (fun _ => true) true ts vs ds ps → (∀ x ∈ ps, x.block < W.heap.size) → DataW.TrodAll enc P W' 0 (fun b => decide (b < W.heap.size)) true ts vs ds ps
  | [], _, _, _, _, h, _ => by obtain ⟨rfl, rfl, rfl⟩ := trodAll_nil h; exact trodAll_mk0
  | t :: ts, _, _, _, ht, h, hp => by
    obtain ⟨v, vs', d, ds', p, q, rfl, rfl, rfl, h1, h2⟩ := trodAll_cons h
    have h3 := ht t (by simp)
    exact ⟨p, q, Below.trod hl h3.1 h3.2 h1 hb (fun x hx => hp x (by simp [hx])), trodAll_stays hl hb (fun t' h' => ht t' (by simp [h'])) h2 (fun x hx => hp x (by simp [hx])), rfl⟩
theorem post_law {H : Type} {enc : TypeId × Value → H} {P : Program} {f : Func} {s : ChangeSpec} {W W' : World} {args : Array Value} {ds gs : List (DataW H)} {before : List MemPlace} {tb : TypeId} (hl : laidOutB P = true)
    (hts : (f.params.toList.all fun t => P.readableRec t && decide (t < P.types.size)) = true) (hv : s.vars = []) (hr : f.resultTypes = #[tb]) (hb : P.underlying tb = some .bool)
    (hfn : s.fn H (ds ++ gs) = { results := [.lit (.bool true)], args := ds }) (hW : DataW.Whole enc P f.params.toList s.vars false W args.toList ds gs before) (hbel : Below W.heap.size W W') :
    s.post enc P f false true false false W args (.bool true) W' := by
  have hlt := hW.lt
  have hW' := hW
  obtain ⟨p, q, hA, hV, rfl, _, _⟩ := hW
  rw [hv] at hV
  obtain ⟨rfl, rfl⟩ := trodVars_none hV
  have hts' : ∀ t ∈ f.params.toList, P.readableRec t = true ∧ t < P.types.size := fun t ht => by
    have := List.all_eq_true.1 hts t ht
    simpa using this
  refine ⟨ds, [], p ++ [], [], p, [], hW', ?_, ?_, ?_, hbel.frame _, fun h => by cases h⟩
  · rw [hfn, hr]
    exact trodAll_mk1 (shut_bool hb true)
  · rw [hfn]
    exact trodAll_stays hl hbel hts' hA (fun x hx => by simpa using hlt x (by simp [hx]))
  · rw [hfn, hv]; rfl
theorem u8_bounds {x : Int} (h : (Lit.int .u8 x).wf = true) : 0 ≤ x ∧ x < 256 := by
  have h1 := h
  simp only [Lit.wf, Bool.and_eq_true, decide_eq_true_eq] at h1
  have e1 : IntKind.u8.min = 0 := rfl
  have e2 : IntKind.u8.max = 255 := rfl
  omega
theorem u32_bounds {x : Int} (h : (Lit.int .u32 x).wf = true) : 0 ≤ x ∧ x < 4294967296 := by
  have h1 := h
  simp only [Lit.wf, Bool.and_eq_true, decide_eq_true_eq] at h1
  have e1 : IntKind.u32.min = 0 := rfl
  have e2 : IntKind.u32.max = 4294967295 := rfl
  omega
theorem u64_bounds {x : Int} (h : (Lit.int .u64 x).wf = true) : 0 ≤ x ∧ x < 18446744073709551616 := by
  have h1 := h
  simp only [Lit.wf, Bool.and_eq_true, decide_eq_true_eq] at h1
  have e1 : IntKind.u64.min = 0 := rfl
  have e2 : IntKind.u64.max = 18446744073709551615 := rfl
  omega
theorem i64_bounds {x : Int} (h : (Lit.int .i64 x).wf = true) : -9223372036854775808 ≤ x ∧ x < 9223372036854775808 := by
  have h1 := h
  simp only [Lit.wf, Bool.and_eq_true, decide_eq_true_eq] at h1
  have e1 : IntKind.i64.min = -9223372036854775808 := rfl
  have e2 : IntKind.i64.max = 9223372036854775807 := rfl
  omega
end Go.Proofs.YtakedlockchpcaaGreatDoor
namespace Go.Proofs.YtakedlockchpcaaGreatDoor
open Go.ChangeShapes Go.WideShapes Go.ChangeAt Go.RowKit Go.Deep
structure Rd (α : Type) where
  n : Nat
  lie : List (Nat × Obj) → α → (Nat → Option Value) → Prop
  mono : ∀ {L a g g'}, (∀ k v, g k = some v → g' k = some v) → lie L a g → lie L a g'
def intR (k : IntKind) : Rd Int where
  n := 1
  lie := fun _ x g => g 0 = some (.int k x) ∧ (Lit.int k x).wf = true
  mono := fun h h1 => ⟨h _ _ h1.1, h1.2⟩
def boolR : Rd Bool where
  n := 1
  lie := fun _ x g => g 0 = some (.bool x)
  mono := fun h h1 => h _ _ h1
def pairR {α β : Type} (r : Rd α) (s : Rd β) : Rd (α × β) where
  n := r.n + s.n
  lie := fun L x g => r.lie L x.1 g ∧ s.lie L x.2 (fun k => g (r.n + k))
  mono := fun h h1 => ⟨r.mono h h1.1, s.mono (fun _ _ h2 => h _ _ h2) h1.2⟩
def Sound {α : Type} (P : Program) (t : TypeId) (r : Rd α) : Prop :=
  P.cellsOf t = r.n ∧ ∀ {H : Type} {enc : TypeId × Value → H} {W : World} {fuel : Nat} {cs : List Value} {x : DataW H × List MemPlace}, DataW.trod enc P W 0 (fun _ => true) true fuel t cs = some x → ∃ a, r.lie (allL W) a (fun k => cs[k]?)
variable {P : Program} {t : TypeId}
theorem sound_int {k : IntKind} (ht : P.underlying t = some (.int k)) (hc : P.cellsOf t = 1) : Sound P t (intR k) := ⟨hc, fun h => by
  obtain ⟨n, rfl, _, hw⟩ := DataW.trod_int ht h
  exact ⟨n, rfl, hw⟩⟩
theorem sound_bool (ht : P.underlying t = some .bool) (hc : P.cellsOf t = 1) : Sound P t boolR := ⟨hc, fun h => by
  obtain ⟨n, rfl, _⟩ := DataW.trod_bool ht h
  exact ⟨n, rfl⟩⟩
theorem cut_get {cs : List Value} {o n k : Nat} {v : Value} (h : ((cs.drop o).take n)[k]? = some v) : cs[o + k]? = some v := by
  rw [List.getElem?_take] at h
  split at h
  · rwa [List.getElem?_drop] at h
  · cases h
theorem choose_list {α : Type} {n : Nat} {p : Nat → α → Prop} (h : ∀ i, i < n → ∃ x, p i x) : ∃ xs : List α, xs.length = n ∧ ∀ i x, xs[i]? = some x → p i x := by
  induction n with
  | zero => exact ⟨[], rfl, by simp⟩
  | succ n ih =>
    obtain ⟨xs, h1, h2⟩ := ih fun i hi => h i (by omega)
    obtain ⟨x, hx⟩ := h n (by omega)
    refine ⟨xs ++ [x], by simp [h1], fun i y hy => ?_⟩
    by_cases hi : i < n
    · rw [List.getElem?_append_left (by omega)] at hy; exact h2 i y hy
    · rw [List.getElem?_append_right (by omega)] at hy
      have : i = n := by
        have := (List.getElem?_eq_some_iff.1 hy).1
        simp at this; omega
      subst this
      rw [h1, Nat.sub_self] at hy
      simp at hy; subst hy; exact hx
theorem cells_get {W : World} {a : Addr} {n k : Nat} {cs : List Value} (h : W.cells? 0 a n = some cs) (hk : k < n) : ∃ v, cs[k]? = some v ∧ W.cell? (a.add k) = some v := by
  obtain ⟨_, hl, hat⟩ := World.cells?_some h
  exact ⟨cs[k]'(by omega), List.getElem?_eq_getElem (by omega), by rw [hat k hk, List.getElem?_eq_getElem (by omega)]⟩
end Go.Proofs.YtakedlockchpcaaGreatDoor
namespace Go.Proofs.YtakedlockchpcaaGreatDoor
open Go.ChangeShapes Go.WideShapes Go.ChangeAt Go.RowKit Go.Deep
def SlLieZ {α : Type} (r : Rd α) (L : List (Nat × Obj)) (a : Option Addr) (xs : List α) : Prop :=
  xs = [] ∨ ∃ (b off : Nat) (cs : Array Value) (E : TypeId) (fr : Nat × Nat) (i : Nat), a = some ⟨b, off, none⟩ ∧ L[i]? = some (b, Obj.cells cs E fr) ∧ (∀ k, k < xs.length * r.n → ¬ (fr.1 ≤ off + k ∧ off + k < fr.2)) ∧ ∀ j x, xs[j]? = some x → r.lie L x (fun k => cs[off + j * r.n + k]?)
def sliceZ {α : Type} (r : Rd α) : Rd (List α) where
  n := 1
  lie := fun L xs g => ∃ a cap, g 0 = some (.slice a xs.length cap) ∧ xs.length ≤ cap ∧ cap ≤ maxLen ∧ SlLieZ r L a xs
  mono := fun h ⟨a, cap, h1, h2⟩ => ⟨a, cap, h _ _ h1, h2⟩
def SoundZ {α : Type} (P : Program) (t : TypeId) (r : Rd α) : Prop :=
  P.cellsOf t = r.n ∧ ∀ {H : Type} {enc : TypeId × Value → H} {W : World} {fuel : Nat} {cs : List Value} {x : DataW H × List MemPlace}, DataW.trod enc P W 0 (fun _ => true) true fuel t cs = some x → W.noneFrozen x.2 → ∃ a, r.lie (allL W) a (fun k => cs[k]?)
variable {P : Program} {t : TypeId}
theorem Sound.z {α : Type} {r : Rd α} (h : Sound P t r) : SoundZ P t r := ⟨h.1, fun h1 _ => h.2 h1⟩
theorem noneFrozen_sub {W : World} {p q : List MemPlace} (h : W.noneFrozen p) (hs : ∀ x ∈ q, x ∈ p) : W.noneFrozen q := fun b off hm => h b off (hs _ hm)
theorem soundZ_slice {α : Type} {r : Rd α} {e : TypeId} (ht : P.underlying t = some (.slice e)) (hc : P.cellsOf t = 1) (hr : 0 < r.n) (he : SoundZ P e r) : SoundZ P t (sliceZ r) := ⟨hc, fun {H enc W fuel cs x} h hz => by
  rcases open_slice ht h with ⟨rfl, _⟩ | ⟨a, len, cap, m, n, D, Pl, rfl, _, hl, hm, hmm, rfl, hi⟩
  · exact ⟨[], none, 0, rfl, Nat.le_refl _, Nat.zero_le _, .inl rfl⟩
  · simp only [if_true] at hmm
    subst hmm
    by_cases h0 : len = 0
    · subst h0; exact ⟨[], some a, m, rfl, Nat.zero_le _, hm, .inl rfl⟩
    rw [he.1] at hi hz
    have hblock : ∃ b off cs E fr, a = ⟨b, off, none⟩ ∧ W.heap[b]? = some (Obj.cells cs E fr) := by
      obtain ⟨cs', h1, _⟩ := hi 0 (by omega)
      obtain ⟨v, _, hv⟩ := cells_get h1 hr
      have e0 : (a.add (0 * r.n)).add 0 = a := by simp [Addr.add]
      rw [e0] at hv
      obtain ⟨b, off, spot⟩ := a
      simp only [World.cell?] at hv
      split at hv
      · rename_i cs E fr hb
        split at hv
        · cases hv
        · rename_i hs
          have hs' : spot = none := by cases spot with | none => rfl | some _ => simp at hs
          subst hs'
          exact ⟨b, off, cs, E, fr, rfl, hb⟩
      · cases hv
    obtain ⟨b, off, cs, E, fr, rfl, hb⟩ := hblock
    obtain ⟨ys, h1, h2⟩ := choose_list (n := len) (p := fun j x => r.lie (allL W) x (fun k => cs[off + j * r.n + k]?)) fun i hlt => by
      obtain ⟨cs', hc1, ht1⟩ := hi i (by omega)
      obtain ⟨x, hx⟩ := he.2 ht1 (noneFrozen_sub hz fun q hq => List.mem_append_right _ (List.mem_flatMap.2 ⟨i, List.mem_range.2 (by omega), hq⟩))
      refine ⟨x, r.mono (fun k v hk => ?_) hx⟩
      have hk2 : k < r.n := by
        obtain ⟨_, hl2, _⟩ := World.cells?_some hc1
        have := (List.getElem?_eq_some_iff.1 hk).1
        omega
      obtain ⟨v', e1, e2⟩ := cells_get hc1 hk2
      rw [hk] at e1; cases e1
      rw [add_add, Addr.add_mid, World.cell?] at e2
      simp only [hb] at e2
      rw [Nat.add_assoc]
      simpa using e2
    refine ⟨ys, some ⟨b, off, none⟩, m, by rw [h1]; rfl, by omega, hm, .inr ⟨b, off, cs, E, fr, b, rfl, allL_get hb, fun k hk hf => ?_, h2⟩⟩
    rw [h1] at hk
    have hkm : k < m * r.n := Nat.lt_of_lt_of_le hk (Nat.mul_le_mul_right _ hl)
    have := hz b (off + k) (List.mem_append_left _ (by
      unfold MemPlace.row
      exact List.mem_map.2 ⟨k, List.mem_range.2 hkm, rfl⟩))
    obtain ⟨lo, hi'⟩ := fr
    unfold World.frozen? at this
    simp only [hb, Bool.and_eq_false_iff, decide_eq_false_iff_not] at this
    simp only at hf
    omega⟩
def SoundZF {α : Type} (P : Program) (fs : List Field) (off : Nat) (r : Rd α) : Prop :=
  ∀ {H : Type} {enc : TypeId × Value → H} {W : World} {n : Nat} {cs : List Value} {xs : List (DataW H × List MemPlace)}, xs.length = fs.length → (∀ x ∈ xs, W.noneFrozen x.2) →
    (∀ (i : Nat) (f : Field), fs[i]? = some f → DataW.trod enc P W 0 (fun _ => true) true n f.type ((cs.drop f.offset).take (P.cellsOf f.type)) = xs[i]?) → ∃ a, r.lie (allL W) a (fun k => cs[off + k]?)
theorem soundZF_one {α : Type} {r : Rd α} {f : Field} {off : Nat} (h : SoundZ P f.type r) (ho : f.offset = off) : SoundZF P [f] off r := fun {H enc W n cs xs} hl hz hi => by
  have h1 := hi 0 f rfl
  obtain ⟨y, hy⟩ : ∃ y, xs[0]? = some y := ⟨xs[0]'(by simp [hl]), List.getElem?_eq_getElem _⟩
  rw [hy] at h1
  obtain ⟨a, ha⟩ := h.2 h1 (hz y (List.mem_of_getElem? hy))
  refine ⟨a, r.mono (fun k v hk => ?_) ha⟩
  have := cut_get hk
  rwa [ho] at this
theorem soundZF_cons {α β : Type} {r : Rd α} {s : Rd β} {f : Field} {fs : List Field} {off : Nat} (h : SoundZ P f.type r) (ho : f.offset = off) (hs : SoundZF P fs (off + r.n) s) : SoundZF P (f :: fs) off (pairR r s) := fun {H enc W n cs xs} hl hz hi => by
  obtain ⟨y, xs, rfl⟩ : ∃ y ys, xs = y :: ys := by
    cases xs with
    | nil => simp at hl
    | cons y ys => exact ⟨y, ys, rfl⟩
  obtain ⟨a, ha⟩ := soundZF_one (P := P) h ho (enc := enc) (W := W) (n := n) (cs := cs) (xs := [y]) rfl (fun x hx => hz x (by rw [List.mem_singleton.1 hx]; exact List.mem_cons_self)) (fun i g hg => by
    cases i with
    | zero => exact hi 0 g hg
    | succ i => simp at hg)
  obtain ⟨b, hb⟩ := hs (enc := enc) (W := W) (n := n) (cs := cs) (xs := xs) (by simpa using hl) (fun x hx => hz x (List.mem_cons_of_mem _ hx)) (fun i g hg => hi (i + 1) g hg)
  exact ⟨(a, b), ha, by simpa [Nat.add_assoc] using hb⟩
theorem soundZ_struct {α : Type} {r : Rd α} {fs : Array Field} (ht : P.underlying t = some (.struct fs)) (hc : P.cellsOf t = r.n) (h : SoundZF P fs.toList 0 r) : SoundZ P t r := ⟨hc, fun hx hz => by
  obtain ⟨xs, n, _, rfl, _, hl, hi⟩ := DataW.trod_struct ht hx
  obtain ⟨a, ha⟩ := h (by simpa using hl) (fun x hx' => noneFrozen_sub hz fun q hq => List.mem_flatMap.2 ⟨x, hx', hq⟩) (fun i f hf => hi i f (by simpa using hf))
  exact ⟨a, by simpa using ha⟩⟩
theorem argZ_agg {α : Type} {H : Type} {enc : TypeId × Value → H} {W : World} {rc : Reach} {b0 : TypeId} {r : Rd α} {v : Value} {d : DataW H} {p : List MemPlace} {fs : Array Field} (ht : P.underlying t = some (.struct fs)) (hs : SoundZ P t r)
    (hval : Value.okWide P W rc b0 t v) (h : DataW.Trod enc P W 0 (fun _ => true) true t v d p) (hz : W.noneFrozen p) : ∃ (cs : Array Value) (x : α), v = .agg cs ∧ cs.size = r.n ∧ r.lie (allL W) x (fun k => cs[k]?) := by
  obtain ⟨cs, rfl, hsz⟩ := okWide_struct ht hval
  obtain ⟨fuel, hf⟩ := h
  obtain ⟨x, h1⟩ := hs.2 hf hz
  exact ⟨cs, x, rfl, by rw [hsz, hs.1], by simpa [Value.cells] using h1⟩
end Go.Proofs.YtakedlockchpcaaGreatDoor
namespace Go.Proofs.YtakedlockchpcaaGreatDoor
open Go.ChangeShapes Go.WideShapes Go.ChangeAt Go.RowKit
abbrev msgR := (pairR (intR .i64) (pairR (intR .i64) (pairR (pairR (intR .u32) (pairR (intR .i64) (pairR (intR .i64) (pairR (intR .u8) (pairR boolR boolR))))) (pairR (intR .i64) (pairR (intR .i64) (pairR (pairR (intR .i64) (pairR (intR .i64) (pairR (sliceZ (intR .i64)) (pairR (intR .i64) (pairR (intR .i64) (pairR (pairR (intR .i64) (pairR (intR .i64) (pairR (intR .i64) (intR .i64)))) (intR .i64))))))) (pairR (intR .i64) (pairR (intR .i64) (pairR boolR (sliceZ (pairR (intR .i64) (pairR (intR .u32) (pairR (intR .i64) (pairR (intR .i64) (pairR (intR .u8) (pairR (intR .i64) (pairR (intR .i64) (pairR (intR .u64) (pairR (intR .i64) (intR .i64))))))))))))))))))))
abbrev entR := (pairR (intR .i64) (pairR (intR .u32) (pairR (intR .i64) (pairR (intR .i64) (pairR (intR .u8) (pairR (intR .i64) (pairR (intR .i64) (pairR (intR .u64) (pairR (intR .i64) (intR .i64))))))))))
theorem ok_ww {x : Int} (h : (Lit.int .i64 x).wf = true) : Fk.ok .ww (.int .i64 x) := ⟨x, rfl, (i64_bounds h).1, (i64_bounds h).2⟩
theorem ok_nn {x : Int} (h : (Lit.int .u64 x).wf = true) : Fk.ok .nn (.int .u64 x) := ⟨x, rfl, (u64_bounds h).1, (u64_bounds h).2⟩
theorem ok_kk {x : Int} (h : (Lit.int .u32 x).wf = true) : Fk.ok .kk (.int .u32 x) := ⟨x, rfl, (u32_bounds h).1, (u32_bounds h).2⟩
theorem ok_bb {x : Int} (h : (Lit.int .u8 x).wf = true) : Fk.ok .bb (.int .u8 x) := ⟨UInt8.ofNat x.toNat, by
  have hb := u8_bounds h
  simp only [bV, UInt8.toNat_ofNat', Value.int.injEq, true_and]
  omega⟩
theorem ok_tt (x : Bool) : Fk.ok .tt (.bool x) := ⟨x, rfl⟩
abbrev RecT := Int × Int × Int × Int × Bool × Bool
def rcV (x : RecT) : List Value := [.int .u32 x.1, .int .i64 x.2.1, .int .i64 x.2.2.1, .int .u8 x.2.2.2.1, .bool x.2.2.2.2.1, .bool x.2.2.2.2.2]
abbrev EntT := Int × Int × Int × Int × Int × Int × Int × Int × Int × Int
def enV (x : EntT) : List Value := [.int .i64 x.1, .int .u32 x.2.1, .int .i64 x.2.2.1, .int .i64 x.2.2.2.1, .int .u8 x.2.2.2.2.1, .int .i64 x.2.2.2.2.2.1, .int .i64 x.2.2.2.2.2.2.1, .int .u64 x.2.2.2.2.2.2.2.1, .int .i64 x.2.2.2.2.2.2.2.2.1, .int .i64 x.2.2.2.2.2.2.2.2.2]
theorem ent_of {L : List (Nat × Obj)} {cs : Array Value} {off : Nat} {x : EntT} (h : entR.lie L x (fun k => cs[off + k]?)) : Oks entryF (enV x) ∧ Lies cs off (enV x) := by
  obtain ⟨⟨a0, w0⟩, ⟨a1, w1⟩, ⟨a2, w2⟩, ⟨a3, w3⟩, ⟨a4, w4⟩, ⟨a5, w5⟩, ⟨a6, w6⟩, ⟨a7, w7⟩, ⟨a8, w8⟩, a9, w9⟩ := h
  refine ⟨⟨ok_ww w0, ok_kk w1, ok_ww w2, ok_ww w3, ok_bb w4, ok_ww w5, ok_ww w6, ok_nn w7, ok_ww w8, ok_ww w9, trivial⟩, fun j v hj => ?_⟩
  match j, hj with
  | 0, hj => cases hj; exact a0
  | 1, hj => cases hj; exact a1
  | 2, hj => cases hj; exact a2
  | 3, hj => cases hj; exact a3
  | 4, hj => cases hj; exact a4
  | 5, hj => cases hj; exact a5
  | 6, hj => cases hj; exact a6
  | 7, hj => cases hj; exact a7
  | 8, hj => cases hj; exact a8
  | 9, hj => cases hj; exact a9
  | j + 10, hj => simp [enV] at hj
theorem bins_of {L : List (Nat × Obj)} {a : Option Addr} {xs : List Int} (h : SlLieZ (intR .i64) L a xs) : (∀ vs ∈ xs.map fun x => [Value.int .i64 x], Oks binF vs) ∧ Elems L a 1 (xs.map fun x => [Value.int .i64 x]) := by
  rcases h with rfl | ⟨b, off, cs, E, fr, i, h1, h2, h3, h4⟩
  · exact ⟨(fun _ h => (by cases h)), .inl rfl⟩
  · refine ⟨fun vs hv => ?_, .inr ⟨b, off, i, cs, E, fr, h1, h2, fun j vs hj => ?_⟩⟩
    · obtain ⟨x, hx, rfl⟩ := List.mem_map.1 hv
      obtain ⟨j, hj⟩ := List.mem_iff_getElem?.1 hx
      exact ⟨ok_ww (h4 j x hj).2, trivial⟩
    · rw [List.getElem?_map] at hj
      obtain ⟨x, hx, rfl⟩ := Option.map_eq_some_iff.1 hj
      have hlt := (List.getElem?_eq_some_iff.1 hx).1
      refine ⟨one_lies (h4 j x hx).1, fun k hk => ?_⟩
      have := h3 (j * 1 + k) (by show j * 1 + k < xs.length * 1; omega)
      rwa [← Nat.add_assoc] at this
theorem ents_of {L : List (Nat × Obj)} {a : Option Addr} {xs : List EntT} (h : SlLieZ entR L a xs) : (∀ vs ∈ xs.map enV, Oks entryF vs) ∧ Elems L a 10 (xs.map enV) := by
  rcases h with rfl | ⟨b, off, cs, E, fr, i, h1, h2, h3, h4⟩
  · exact ⟨(fun _ h => (by cases h)), .inl rfl⟩
  · refine ⟨fun vs hv => ?_, .inr ⟨b, off, i, cs, E, fr, h1, h2, fun j vs hj => ?_⟩⟩
    · obtain ⟨x, hx, rfl⟩ := List.mem_map.1 hv
      obtain ⟨j, hj⟩ := List.mem_iff_getElem?.1 hx
      exact (ent_of (h4 j x hj)).1
    · rw [List.getElem?_map] at hj
      obtain ⟨x, hx, rfl⟩ := Option.map_eq_some_iff.1 hj
      have hlt := (List.getElem?_eq_some_iff.1 hx).1
      refine ⟨(ent_of (h4 j x hx)).2, fun k hk => ?_⟩
      have := h3 (j * 10 + k) (by show j * 10 + k < xs.length * 10; omega)
      rwa [← Nat.add_assoc] at this
theorem msg_at {L : List (Nat × Obj)} {cs : Array Value} {off : Nat} {x : _} (h : msgR.lie L x (fun k => cs[off + k]?)) : ∃ (m : MV) (a : Option Addr) (cap : Nat) (a' : Option Addr) (cap' : Nat), m.Ok ∧ Lies cs off (m.cells a cap a' cap') ∧ Elems L a 1 m.bins ∧ Elems L a' 10 m.ents ∧ m.bins.length ≤ cap ∧ m.ents.length ≤ cap' ∧ cap ≤ maxLen ∧ cap' ≤ maxLen := by
  obtain ⟨⟨k0, w0⟩, ⟨k1, w1⟩, ⟨⟨r0, v0⟩, ⟨r1, v1⟩, ⟨r2, v2⟩, ⟨r3, v3⟩, r4, r5⟩, ⟨k8, w8⟩, ⟨k9, w9⟩, ⟨⟨c0, u0⟩, ⟨c1, u1⟩, ⟨a, cap, c2, n1, n2, hb⟩, ⟨c3, u3⟩, ⟨c4, u4⟩, ⟨⟨c5, u5⟩, ⟨c6, u6⟩, ⟨c7, u7⟩, c8, u8⟩, c9, u9⟩, ⟨q0, s0⟩, ⟨q1, s1⟩, q2, a', cap', q3, n3, n4, he⟩ := h
  obtain ⟨ob, eb⟩ := bins_of hb
  obtain ⟨oe, ee⟩ := ents_of he
  have lb : (x.2.2.2.2.2.1.2.2.1.map fun x => [Value.int .i64 x]).length = x.2.2.2.2.2.1.2.2.1.length := List.length_map ..
  refine ⟨⟨x.1, x.2.1, rcV x.2.2.1, x.2.2.2.1, x.2.2.2.2.1, [.int .i64 x.2.2.2.2.2.1.1, .int .i64 x.2.2.2.2.2.1.2.1], x.2.2.2.2.2.1.2.2.1.map fun x => [Value.int .i64 x],
    [.int .i64 x.2.2.2.2.2.1.2.2.2.1, .int .i64 x.2.2.2.2.2.1.2.2.2.2.1, .int .i64 x.2.2.2.2.2.1.2.2.2.2.2.1.1, .int .i64 x.2.2.2.2.2.1.2.2.2.2.2.1.2.1, .int .i64 x.2.2.2.2.2.1.2.2.2.2.2.1.2.2.1, .int .i64 x.2.2.2.2.2.1.2.2.2.2.2.1.2.2.2, .int .i64 x.2.2.2.2.2.1.2.2.2.2.2.2],
    [.int .i64 x.2.2.2.2.2.2.1, .int .i64 x.2.2.2.2.2.2.2.1, .bool x.2.2.2.2.2.2.2.2.1], x.2.2.2.2.2.2.2.2.2.map enV⟩, a, cap, a', cap', ⟨i64_bounds w0, i64_bounds w1, ⟨ok_kk v0, ok_ww v1, ok_ww v2, ok_bb v3, ok_tt _, ok_tt _, trivial⟩, i64_bounds w8, i64_bounds w9, ⟨ok_ww u0, ok_ww u1, trivial⟩, ob, ⟨ok_ww u3, ok_ww u4, ok_ww u5, ok_ww u6, ok_ww u7, ok_ww u8, ok_ww u9, trivial⟩, ⟨ok_ww s0, ok_ww s1, ok_tt _, trivial⟩, oe⟩, ?_, eb, ee, by rw [lb]; exact n1, by rw [List.length_map]; exact n3, n2, n4⟩
  intro j v hj
  unfold MV.cells at hj
  rw [List.length_map, List.length_map] at hj
  match j, hj with
  | 0, hj => cases hj; exact k0
  | 1, hj => cases hj; exact k1
  | 2, hj => cases hj; exact r0
  | 3, hj => cases hj; exact r1
  | 4, hj => cases hj; exact r2
  | 5, hj => cases hj; exact r3
  | 6, hj => cases hj; exact r4
  | 7, hj => cases hj; exact r5
  | 8, hj => cases hj; exact k8
  | 9, hj => cases hj; exact k9
  | 10, hj => cases hj; exact c0
  | 11, hj => cases hj; exact c1
  | 12, hj => cases hj; exact c2
  | 13, hj => cases hj; exact c3
  | 14, hj => cases hj; exact c4
  | 15, hj => cases hj; exact c5
  | 16, hj => cases hj; exact c6
  | 17, hj => cases hj; exact c7
  | 18, hj => cases hj; exact c8
  | 19, hj => cases hj; exact c9
  | 20, hj => cases hj; exact q0
  | 21, hj => cases hj; exact q1
  | 22, hj => cases hj; exact q2
  | 23, hj => cases hj; exact q3
  | j + 24, hj => simp [rcV] at hj
end Go.Proofs.YtakedlockchpcaaGreatDoor
namespace Go.Proofs.YtakedlockchpcaaGreatDoor
open Go.ChangeShapes Go.WideShapes Go.ChangeAt Go.RowKit
abbrev gramR := (pairR (intR .i64) (pairR (intR .i64) (pairR boolR (pairR (intR .u64) (pairR (intR .i64) (pairR (intR .i64) (pairR (intR .i64) (pairR (pairR (intR .u32) (pairR (intR .i64) (pairR (intR .i64) (pairR (intR .u8) (pairR boolR boolR))))) (pairR (intR .i64) (pairR (intR .i64) (pairR (pairR (intR .i64) (pairR (intR .i64) (pairR (sliceZ (intR .i64)) (pairR (intR .i64) (pairR (intR .i64) (pairR (pairR (intR .i64) (pairR (intR .i64) (pairR (intR .i64) (intR .i64)))) (intR .i64))))))) (pairR (intR .i64) (pairR (intR .i64) (pairR boolR (sliceZ (pairR (intR .i64) (pairR (intR .u32) (pairR (intR .i64) (pairR (intR .i64) (pairR (intR .u8) (pairR (intR .i64) (pairR (intR .i64) (pairR (intR .u64) (pairR (intR .i64) (intR .i64)))))))))))))))))))))))))
abbrev draftR := (pairR (pairR (intR .i64) (pairR (intR .i64) (pairR boolR (pairR (intR .u64) (pairR (intR .i64) (pairR (intR .i64) (pairR (intR .i64) (pairR (pairR (intR .u32) (pairR (intR .i64) (pairR (intR .i64) (pairR (intR .u8) (pairR boolR boolR))))) (pairR (intR .i64) (pairR (intR .i64) (pairR (pairR (intR .i64) (pairR (intR .i64) (pairR (sliceZ (intR .i64)) (pairR (intR .i64) (pairR (intR .i64) (pairR (pairR (intR .i64) (pairR (intR .i64) (pairR (intR .i64) (intR .i64)))) (intR .i64))))))) (pairR (intR .i64) (pairR (intR .i64) (pairR boolR (sliceZ (pairR (intR .i64) (pairR (intR .u32) (pairR (intR .i64) (pairR (intR .i64) (pairR (intR .u8) (pairR (intR .i64) (pairR (intR .i64) (pairR (intR .u64) (pairR (intR .i64) (intR .i64))))))))))))))))))))))))) boolR)
set_option maxRecDepth 100000 in
theorem gramR_sound : SoundZ Tryz.prog 80 gramR := (soundZ_struct Tryz.underlying80 (by kernel_rfl) (soundZF_cons (sound_int Tryz.underlying3 (by kernel_rfl)).z rfl (soundZF_cons (sound_int Tryz.underlying3 (by kernel_rfl)).z rfl (soundZF_cons (sound_bool Tryz.underlying4 (by kernel_rfl)).z rfl (soundZF_cons (sound_int Tryz.underlying41 (by kernel_rfl)).z rfl (soundZF_cons (sound_int Tryz.underlying3 (by kernel_rfl)).z rfl (soundZF_one (soundZ_struct Tryz.underlying35 (by kernel_rfl) (soundZF_cons (sound_int Tryz.underlying3 (by kernel_rfl)).z rfl (soundZF_cons (sound_int Tryz.underlying3 (by kernel_rfl)).z rfl (soundZF_cons (soundZ_struct Tryz.underlying25 (by kernel_rfl) (soundZF_cons (sound_int Tryz.underlying23 (by kernel_rfl)).z rfl (soundZF_cons (sound_int Tryz.underlying2 (by kernel_rfl)).z rfl (soundZF_cons (sound_int Tryz.underlying2 (by kernel_rfl)).z rfl (soundZF_cons (sound_int Tryz.underlying5 (by kernel_rfl)).z rfl (soundZF_cons (sound_bool Tryz.underlying4 (by kernel_rfl)).z rfl (soundZF_one (sound_bool Tryz.underlying4 (by kernel_rfl)).z rfl))))))) rfl (soundZF_cons (sound_int Tryz.underlying2 (by kernel_rfl)).z rfl (soundZF_cons (sound_int Tryz.underlying3 (by kernel_rfl)).z rfl (soundZF_cons (soundZ_struct Tryz.underlying30 (by kernel_rfl) (soundZF_cons (sound_int Tryz.underlying3 (by kernel_rfl)).z rfl (soundZF_cons (sound_int Tryz.underlying2 (by kernel_rfl)).z rfl (soundZF_cons (soundZ_slice Tryz.underlying26 (by kernel_rfl) (by decide) (sound_int Tryz.underlying3 (by kernel_rfl)).z) rfl (soundZF_cons (sound_int Tryz.underlying3 (by kernel_rfl)).z rfl (soundZF_cons (sound_int Tryz.underlying3 (by kernel_rfl)).z rfl (soundZF_cons (soundZ_struct Tryz.underlying28 (by kernel_rfl) (soundZF_cons (sound_int Tryz.underlying3 (by kernel_rfl)).z rfl (soundZF_cons (sound_int Tryz.underlying2 (by kernel_rfl)).z rfl (soundZF_cons (sound_int Tryz.underlying2 (by kernel_rfl)).z rfl (soundZF_one (sound_int Tryz.underlying3 (by kernel_rfl)).z rfl))))) rfl (soundZF_one (sound_int Tryz.underlying3 (by kernel_rfl)).z rfl)))))))) rfl (soundZF_one (soundZ_struct Tryz.underlying33 (by kernel_rfl) (soundZF_cons (sound_int Tryz.underlying3 (by kernel_rfl)).z rfl (soundZF_cons (sound_int Tryz.underlying3 (by kernel_rfl)).z rfl (soundZF_cons (sound_bool Tryz.underlying4 (by kernel_rfl)).z rfl (soundZF_one (soundZ_slice Tryz.underlying31 (by kernel_rfl) (by decide) (soundZ_struct Tryz.underlying45 (by kernel_rfl) (soundZF_cons (sound_int Tryz.underlying3 (by kernel_rfl)).z rfl (soundZF_cons (sound_int Tryz.underlying23 (by kernel_rfl)).z rfl (soundZF_cons (sound_int Tryz.underlying2 (by kernel_rfl)).z rfl (soundZF_cons (sound_int Tryz.underlying2 (by kernel_rfl)).z rfl (soundZF_cons (sound_int Tryz.underlying5 (by kernel_rfl)).z rfl (soundZF_one (soundZ_struct Tryz.underlying43 (by kernel_rfl) (soundZF_cons (sound_int Tryz.underlying2 (by kernel_rfl)).z rfl (soundZF_cons (sound_int Tryz.underlying2 (by kernel_rfl)).z rfl (soundZF_cons (sound_int Tryz.underlying41 (by kernel_rfl)).z rfl (soundZF_cons (sound_int Tryz.underlying2 (by kernel_rfl)).z rfl (soundZF_one (sound_int Tryz.underlying2 (by kernel_rfl)).z rfl)))))) rfl)))))))) rfl))))) rfl)))))))) rfl)))))))
set_option maxRecDepth 100000 in
theorem draftR_sound : SoundZ Tryz.prog 82 draftR := (soundZ_struct Tryz.underlying82 (by kernel_rfl) (soundZF_cons (soundZ_struct Tryz.underlying80 (by kernel_rfl) (soundZF_cons (sound_int Tryz.underlying3 (by kernel_rfl)).z rfl (soundZF_cons (sound_int Tryz.underlying3 (by kernel_rfl)).z rfl (soundZF_cons (sound_bool Tryz.underlying4 (by kernel_rfl)).z rfl (soundZF_cons (sound_int Tryz.underlying41 (by kernel_rfl)).z rfl (soundZF_cons (sound_int Tryz.underlying3 (by kernel_rfl)).z rfl (soundZF_one (soundZ_struct Tryz.underlying35 (by kernel_rfl) (soundZF_cons (sound_int Tryz.underlying3 (by kernel_rfl)).z rfl (soundZF_cons (sound_int Tryz.underlying3 (by kernel_rfl)).z rfl (soundZF_cons (soundZ_struct Tryz.underlying25 (by kernel_rfl) (soundZF_cons (sound_int Tryz.underlying23 (by kernel_rfl)).z rfl (soundZF_cons (sound_int Tryz.underlying2 (by kernel_rfl)).z rfl (soundZF_cons (sound_int Tryz.underlying2 (by kernel_rfl)).z rfl (soundZF_cons (sound_int Tryz.underlying5 (by kernel_rfl)).z rfl (soundZF_cons (sound_bool Tryz.underlying4 (by kernel_rfl)).z rfl (soundZF_one (sound_bool Tryz.underlying4 (by kernel_rfl)).z rfl))))))) rfl (soundZF_cons (sound_int Tryz.underlying2 (by kernel_rfl)).z rfl (soundZF_cons (sound_int Tryz.underlying3 (by kernel_rfl)).z rfl (soundZF_cons (soundZ_struct Tryz.underlying30 (by kernel_rfl) (soundZF_cons (sound_int Tryz.underlying3 (by kernel_rfl)).z rfl (soundZF_cons (sound_int Tryz.underlying2 (by kernel_rfl)).z rfl (soundZF_cons (soundZ_slice Tryz.underlying26 (by kernel_rfl) (by decide) (sound_int Tryz.underlying3 (by kernel_rfl)).z) rfl (soundZF_cons (sound_int Tryz.underlying3 (by kernel_rfl)).z rfl (soundZF_cons (sound_int Tryz.underlying3 (by kernel_rfl)).z rfl (soundZF_cons (soundZ_struct Tryz.underlying28 (by kernel_rfl) (soundZF_cons (sound_int Tryz.underlying3 (by kernel_rfl)).z rfl (soundZF_cons (sound_int Tryz.underlying2 (by kernel_rfl)).z rfl (soundZF_cons (sound_int Tryz.underlying2 (by kernel_rfl)).z rfl (soundZF_one (sound_int Tryz.underlying3 (by kernel_rfl)).z rfl))))) rfl (soundZF_one (sound_int Tryz.underlying3 (by kernel_rfl)).z rfl)))))))) rfl (soundZF_one (soundZ_struct Tryz.underlying33 (by kernel_rfl) (soundZF_cons (sound_int Tryz.underlying3 (by kernel_rfl)).z rfl (soundZF_cons (sound_int Tryz.underlying3 (by kernel_rfl)).z rfl (soundZF_cons (sound_bool Tryz.underlying4 (by kernel_rfl)).z rfl (soundZF_one (soundZ_slice Tryz.underlying31 (by kernel_rfl) (by decide) (soundZ_struct Tryz.underlying45 (by kernel_rfl) (soundZF_cons (sound_int Tryz.underlying3 (by kernel_rfl)).z rfl (soundZF_cons (sound_int Tryz.underlying23 (by kernel_rfl)).z rfl (soundZF_cons (sound_int Tryz.underlying2 (by kernel_rfl)).z rfl (soundZF_cons (sound_int Tryz.underlying2 (by kernel_rfl)).z rfl (soundZF_cons (sound_int Tryz.underlying5 (by kernel_rfl)).z rfl (soundZF_one (soundZ_struct Tryz.underlying43 (by kernel_rfl) (soundZF_cons (sound_int Tryz.underlying2 (by kernel_rfl)).z rfl (soundZF_cons (sound_int Tryz.underlying2 (by kernel_rfl)).z rfl (soundZF_cons (sound_int Tryz.underlying41 (by kernel_rfl)).z rfl (soundZF_cons (sound_int Tryz.underlying2 (by kernel_rfl)).z rfl (soundZF_one (sound_int Tryz.underlying2 (by kernel_rfl)).z rfl)))))) rfl)))))))) rfl))))) rfl)))))))) rfl))))))) rfl (soundZF_one (sound_bool Tryz.underlying4 (by kernel_rfl)).z rfl)))
theorem gram_at {L : List (Nat × Obj)} {cs : Array Value} {x : _} (h : gramR.lie L x (fun k => cs[k]?)) : ∃ (g : GV) (a : Option Addr) (cap : Nat) (a' : Option Addr) (cap' : Nat), GramAt L (g.cells a cap a' cap').toArray g a cap a' cap' ∧ Lies cs 0 (g.cells a cap a' cap') := by
  obtain ⟨⟨a0, w0⟩, ⟨a1, w1⟩, a2, ⟨a3, w3⟩, ⟨a4, w4⟩, hm⟩ := h
  obtain ⟨m, a, cap, a', cap', q1, q2, q3, q4, q5, q6, q7, q8⟩ := msg_at (cs := cs) (off := 5) hm
  refine ⟨⟨x.1, x.2.1, x.2.2.1, x.2.2.2.1, x.2.2.2.2.1, m⟩, a, cap, a', cap', ⟨⟨i64_bounds w0, i64_bounds w1, (u64_bounds w3).1, (u64_bounds w3).2, i64_bounds w4, q1⟩, rfl, q3, q4, q5, q6, q7, q8⟩, fun j v hj => ?_⟩
  rw [Nat.zero_add]
  match j, hj with
  | 0, hj => cases hj; exact a0
  | 1, hj => cases hj; exact a1
  | 2, hj => cases hj; exact a2
  | 3, hj => cases hj; exact a3
  | 4, hj => cases hj; exact a4
  | j + 5, hj =>
    have := q2 j v hj
    rwa [show j + 5 = 5 + j by omega]
theorem gram_of {L : List (Nat × Obj)} {cs : Array Value} {x : _} (hz : cs.size = 29) (h : gramR.lie L x (fun k => cs[k]?)) : ∃ (g : GV) (a : Option Addr) (cap : Nat) (a' : Option Addr) (cap' : Nat), GramAt L cs g a cap a' cap' := by
  obtain ⟨g, a, cap, a', cap', h1, h2⟩ := gram_at h
  have e := lies_whole h2 (by rw [hz, ← h1.size]; simp)
  exact ⟨g, a, cap, a', cap', e ▸ h1⟩
theorem draft_of {L : List (Nat × Obj)} {cs : Array Value} {x : _} (hz : cs.size = 30) (h : draftR.lie L x (fun k => cs[k]?)) : ∃ (ds : Array Value) (g : GV) (odd : Bool) (a : Option Addr) (cap : Nat) (a' : Option Addr) (cap' : Nat), cs = ds.push (.bool odd) ∧ GramAt L ds g a cap a' cap' := by
  obtain ⟨h1, h2⟩ := h
  obtain ⟨g, a, cap, a', cap', h3, h4⟩ := gram_at h1
  have hl : (g.cells a cap a' cap').length = 29 := by have := h3.size; simpa using this
  refine ⟨_, g, x.2, a, cap, a', cap', ?_, h3⟩
  have e := lies_whole (cs := cs) (vs := g.cells a cap a' cap' ++ [.bool x.2]) (fun j v hj => ?_) (by rw [hz, List.length_append, hl]; rfl)
  · rw [e]; simp
  · rw [List.getElem?_append] at hj
    split at hj
    · exact h4 j v hj
    · rename_i hn
      have hlt := (List.getElem?_eq_some_iff.1 hj).1
      simp only [List.length_cons, List.length_nil] at hlt
      obtain rfl : j = 29 := by omega
      rw [hl] at hj
      cases hj
      exact h2
end Go.Proofs.YtakedlockchpcaaGreatDoor
namespace Go.Proofs.YtakedlockchpcaaGreatDoor
open Go.ChangeShapes Go.WideShapes Go.ChangeAt Go.RowKit
theorem h_et : Tryz.prog.globalNamed "errors.errorType" = some 0 := by kernel_rfl
theorem h_rt : (Tryz.prog.cutTypes.find? (·.1 == "internal/reflectlite.rtype")).map (·.2) = some 254 := by kernel_rfl
theorem h_oneRow : ((List.range 303).filter fun t => Tryz.prog.rowNamed t [101, 114, 114, 111, 114]) = [70] := by kernel_rfl
theorem h_size : Tryz.prog.types.size = 303 := by kernel_rfl
def laidL : List (String × DataW Unit) := [("errors.errorType", Rows.laid_errors_errorType)]
theorem handle_of_laid {W : World} (h : laidMetH Tryz.prog laidL W) : W.cell? ⟨0, 0, none⟩ = some handle := by
  have h' : laidMet Tryz.prog [] W ∧ handlesMet Tryz.prog laidL W := h
  obtain ⟨name, u, ty, e1, e2, e3, e4, e5⟩ := h'.2 _ (List.mem_singleton.2 rfl)
  have en : name = [101, 114, 114, 111, 114] := (Option.some.inj e1).symm
  subst en
  obtain rfl := Option.some.inj (h_rt.symm.trans e2)
  have hm : ty ∈ (List.range 303).filter fun t => Tryz.prog.rowNamed t [101, 114, 114, 111, 114] := List.mem_filter.2 ⟨List.mem_range.2 (by rw [← h_size]; exact e3), e4⟩
  rw [h_oneRow] at hm
  obtain rfl := List.mem_singleton.1 hm
  have hh : typeHandle Tryz.prog 70 = .pointer (some ⟨1, 70, none⟩) := by kernel_rfl
  rw [hh] at e5
  unfold handle
  simpa using World.var?_cell h_et e5 0
noncomputable def laidWorld (os : Os) : World :=
  let w0 := World.holding Tryz.prog os ⟨#[], #[], []⟩
  { w0 with heap := w0.heap.modify 0 fun
      | .cells _ t frozen => .cells #[handle] t frozen
      | o => o }
theorem laidWorld_met (os : Os) (args : Array Value) : laidMetH Tryz.prog laidL ((laidWorld os).forCall (fun _ _ => 0) ⟨#[], args, []⟩).memory :=
  laidMetH_of_parts (laidMet_nil _ _) (by kernel_rfl)
set_option maxRecDepth 100000 in
theorem liftedH {os : Os} {H : Type} {enc : TypeId × Value → H} {f : FuncId} {fn : Func} {s : ChangeSpec} {tb : TypeId} (started : os.Started) (noInit : Tryz.prog.inits.idxOf? f = none) (hfn : Tryz.prog.funcs[f]? = some fn)
    (witness : ∃ (w : World) (tape : Tape) (i : Input), w.os = os ∧ (w.forCall tape i).Shaped Tryz.prog ∧ i.vars = [] ∧ Input.okWide Tryz.prog (w.forCall tape i) .any w.heap.size f i ∧
      ((s.pre enc Tryz.prog fn [] false (w.forCall tape i).memory i.args ∧ laidMetH Tryz.prog laidL (w.forCall tape i).memory) ∧ sizedMet enc Tryz.prog fn (OpenSpec.ofChange s) false (w.forCall tape i).memory i.args) ∧ ({} : Assume).holds Tryz.prog (lone (Frame.enter Tryz.prog f i.args .normal) [] (w.forCall tape i)))
    (hts : (fn.params.toList.all fun t => Tryz.prog.readableRec t && decide (t < Tryz.prog.types.size)) = true) (hv : s.vars = []) (hr : fn.resultTypes = #[tb]) (hb : Tryz.prog.underlying tb = some .bool)
    (hspec : ∀ ds : List (DataW H), ds.length = fn.params.size → s.fn H ds = { results := [.lit (.bool true)], args := ds })
    (h : ∀ (W : World) (base : Nat) (args : Array Value) (ds : List (DataW H)) (ps : List MemPlace), (∀ (j : Nat) t v, fn.params[j]? = some t → args[j]? = some v → Value.okWide Tryz.prog W .any base t v) →
      DataW.TrodAll enc Tryz.prog W 0 (fun _ => true) true fn.params.toList args.toList ds ps → W.noneFrozen ps → (∃ cs E fr, (0, Obj.cells cs E fr) ∈ allL W ∧ cs[0]? = some handle) → Fn Tryz.prog f args.toList (allL W) fun v L' => v = .bool true ∧ L' = allL W) :
    ReturnsInHanded {} Tryz.checked os f .any (fun w args => (s.pre enc Tryz.prog fn [] false w args ∧ laidMetH Tryz.prog laidL w) ∧ sizedMet enc Tryz.prog fn (OpenSpec.ofChange s) false w args) (s.post enc Tryz.prog fn false true false false) := by
  refine returnsInHanded_of_change_and (C := Tryz.checked) (X := fun w _ => laidMetH Tryz.prog laidL w) (fun _ _ _ hh h => h.of_heap hh) ownOf started noInit hfn witness ?_
  intro W base args ds gs before hval hW _ _ hL _
  have hW' := hW
  obtain ⟨p, q, hA, hV, rfl, hfz, _⟩ := hW
  rw [hv] at hV
  obtain ⟨rfl, rfl⟩ := trodVars_none hV
  have hlen : ∀ {ts : List TypeId} {vs : List Value} {ds : List (DataW H)} {ps : List MemPlace}, DataW.TrodAll enc Tryz.prog W 0 (fun _ => true) true ts vs ds ps → ds.length = ts.length := by
    intro ts
    induction ts with
    | nil => intro vs ds ps h; obtain ⟨_, rfl, _⟩ := trodAll_nil h; rfl
    | cons t ts ih => intro vs ds ps h; obtain ⟨v, vs', d, ds', a, b, rfl, rfl, rfl, _, h2⟩ := trodAll_cons h; simp [ih h2]
  have hds := hspec ds (by rw [hlen hA]; simp)
  have hg := handle_of_laid hL
  have hblk : ∃ cs E fr, (0, Obj.cells cs E fr) ∈ allL W ∧ cs[0]? = some handle := by
    unfold World.cell? at hg
    cases hb : W.heap[0]? with
    | none => simp [hb] at hg
    | some o =>
      cases o with
      | cells cs E fr => exact ⟨cs, E, fr, allL_mem_of hb, by simpa [hb] using hg⟩
      | _ => simp [hb] at hg
  refine ((h W base args ds p hval hA (by simpa using hfz) hblk) W W (mem_allL W)).mono fun e W' ⟨v, L', h1, h2, h3, h4⟩ => ?_
  subst h3; subst h4
  exact ⟨_, h1, post_law laidOf hts hv hr hb (by simpa using hds) hW' (below_of_mem h2)⟩
end Go.Proofs.YtakedlockchpcaaGreatDoor
