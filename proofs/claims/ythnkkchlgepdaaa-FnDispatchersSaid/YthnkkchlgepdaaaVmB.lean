/- Parts of data (fields, elements) and what a change of a part does to its whole, for the evaluator Vm. Own work; lemmas. No condition. -/
import Derived.Test.YthnkkchlgepdaaaVmA
namespace Go.Vm
open Go.RowKit

/-- nothing has been moved out -/
def An.ok : An → Bool
  | .ro => true
  | .hole => false
  | .own _ a => a.ok
  | .pair a b => a.ok && b.ok

structure Dat where
  t : Ty
  a : An
  x : t.den

theorem RepL.toRo {α : Type} {f g : α → List Value → List Nat → List Nat → Prop} {xs : List α} {cs : List Value} {O R : List Nat}
    (h : RepL f xs cs O R) (hf : ∀ x c O1 R1, f x c O1 R1 → ∃ R2, g x c [] R2 ∧ ∀ b ∈ R2, b ∈ O1 ∨ b ∈ R1) :
    ∃ R', RepL g xs cs [] R' ∧ ∀ b ∈ R', b ∈ O ∨ b ∈ R := by
  induction xs generalizing cs O R with
  | nil => obtain ⟨rfl, -, -⟩ := h; exact ⟨[], ⟨rfl, rfl, rfl⟩, by simp⟩
  | cons x xs ih =>
    obtain ⟨c1, c2, O1, O2, R1, R2, rfl, rfl, rfl, h1, h2⟩ := h
    obtain ⟨Ra, ha, hb⟩ := hf _ _ _ _ h1
    obtain ⟨Rb, hc, hd⟩ := ih h2
    refine ⟨Ra ++ Rb, ⟨c1, c2, [], [], Ra, Rb, rfl, rfl, rfl, ha, hc⟩, ?_⟩
    intro b h
    simp only [List.mem_append] at *
    rcases h with h | h
    · have := hb b h; grind
    · have := hd b h; grind

/-- what is owned may be taken as only read -/
theorem Rep.toRo {w : World} {t : Ty} {a : An} {x : t.den} {cs : List Value} {O R : List Nat} (h : Rep w t a x cs O R) (hk : a.ok = true) :
    ∃ R', Rep w t .ro x cs [] R' ∧ ∀ b ∈ R', b ∈ O ∨ b ∈ R := by
  induction t generalizing a cs O R with
  | int k => cases a <;> simp [An.ok] at hk <;> (obtain ⟨rfl, rfl, h⟩ := h; exact ⟨[], ⟨rfl, rfl, h⟩, by simp⟩)
  | bool => cases a <;> simp [An.ok] at hk <;> (obtain ⟨rfl, rfl, h⟩ := h; exact ⟨[], ⟨rfl, rfl, h⟩, by simp⟩)
  | str => cases a <;> simp [An.ok] at hk <;> (obtain ⟨rfl, rfl, h⟩ := h; exact ⟨[], ⟨rfl, rfl, h⟩, by simp⟩)
  | pair t u iht ihu =>
    obtain ⟨c1, c2, O1, O2, R1, R2, rfl, rfl, rfl, h1, h2⟩ := h
    have hl : a.l.ok = true := by cases a <;> simp_all [An.l, An.ok]
    have hr : a.r.ok = true := by cases a <;> simp_all [An.r, An.ok]
    obtain ⟨Ra, ha, hb⟩ := iht h1 hl
    obtain ⟨Rb, hc, hd⟩ := ihu h2 hr
    refine ⟨Ra ++ Rb, ⟨c1, c2, [], [], Ra, Rb, rfl, rfl, rfl, ha, hc⟩, ?_⟩
    intro b h
    simp only [List.mem_append] at *
    rcases h with h | h
    · have := hb b h; grind
    · have := hd b h; grind
  | sl e ih =>
    have hro : RepRo w (Rep w e .ro) x cs O R → ∃ R', Rep w (.sl e) .ro x cs [] R' ∧ ∀ b ∈ R', b ∈ O ∨ b ∈ R := by
      intro hh
      obtain ⟨rfl, h3⟩ := hh
      exact ⟨R, ⟨rfl, h3⟩, fun b hb => .inr hb⟩
    cases a with
    | hole => simp [An.ok] at hk
    | ro => exact hro h
    | pair a b => exact hro h
    | own el ae =>
      obtain ⟨v, cells, O', rfl, ho, hm, rfl, hl⟩ := h
      simp only [An.ok] at hk
      obtain ⟨R', h', hR⟩ := hl.toRo (g := Rep w e .ro) (fun y c O1 R1 hy => ih hy hk)
      by_cases hx : x = []
      · refine ⟨[], ⟨rfl, .inl ⟨rfl, hx, ?_⟩⟩, by simp⟩
        rcases ho.2 with ⟨rfl, -⟩ | ⟨g, cap, cur, rfl, -⟩
        · exact ⟨none, 0, rfl⟩
        · exact ⟨some ⟨g, 0, none⟩, cap, by simp [hx]⟩
      · have hpos : 0 < x.length := List.length_pos_iff.2 hx
        rcases ho.2 with ⟨rfl, h0⟩ | ⟨g, cap, cur, rfl, hrest⟩
        · omega
        · refine ⟨g :: R', ⟨rfl, .inr ⟨g, 0, cap, cells, R', rfl, hpos, ⟨hm, hrest.2.2.1⟩, ?_, rfl, h'⟩⟩, ?_⟩
          · intro j u hu
            have := ho.cells (g := g) rfl j u hu
            rwa [Addr.add_lit] at this
          · intro b hb
            simp at hb
            rcases hb with rfl | hb
            · simp [Value.ownBlock]
            · have := hR b hb
              simp [Value.ownBlock]; grind

/-- the part of n cells from cell o on -/
def sub : (t : Ty) → An → t.den → Nat → Nat → Option Dat
  | .pair t u, a, x, o, n =>
    bif (o == 0) && (n == t.sz + u.sz) then some ⟨.pair t u, a, x⟩
    else bif Nat.ble (o + n) t.sz then sub t a.l x.1 o n
    else bif Nat.ble t.sz o then sub u a.r x.2 (o - t.sz) n else none
  | .int k, a, x, o, n => bif (o == 0) && (n == 1) then some ⟨.int k, a, x⟩ else none
  | .bool, a, x, o, n => bif (o == 0) && (n == 1) then some ⟨.bool, a, x⟩ else none
  | .str, a, x, o, n => bif (o == 0) && (n == 1) then some ⟨.str, a, x⟩ else none
  | .sl e, a, x, o, n => bif (o == 0) && (n == 1) then some ⟨.sl e, a, x⟩ else none

def Dat.as (d : Dat) (t : Ty) : Option (An × t.den) := if h : d.t = t then some (d.a, h ▸ d.x) else none

def An.mkp : An → An → An
  | .ro, .ro => .ro
  | l, r => .pair l r
theorem An.mkp_l (l r : An) : (An.mkp l r).l = l := by cases l <;> cases r <;> rfl
theorem An.mkp_r (l r : An) : (An.mkp l r).r = r := by cases l <;> cases r <;> rfl

/-- the whole with another part there -/
def upd : (t : Ty) → An → t.den → Nat → Nat → Dat → Option (An × t.den)
  | .pair t u, a, x, o, n, d =>
    bif (o == 0) && (n == t.sz + u.sz) then d.as (.pair t u)
    else bif Nat.ble (o + n) t.sz then (upd t a.l x.1 o n d).map fun p => (An.mkp p.1 a.r, (p.2, x.2))
    else bif Nat.ble t.sz o then (upd u a.r x.2 (o - t.sz) n d).map fun p => (An.mkp a.l p.1, (x.1, p.2)) else none
  | .int k, _, _, o, n, d => bif (o == 0) && (n == 1) then d.as (.int k) else none
  | .bool, _, _, o, n, d => bif (o == 0) && (n == 1) then d.as .bool else none
  | .str, _, _, o, n, d => bif (o == 0) && (n == 1) then d.as .str else none
  | .sl e, _, _, o, n, d => bif (o == 0) && (n == 1) then d.as (.sl e) else none

theorem Dat.as_self (d : Dat) : d.as d.t = some (d.a, d.x) := by simp [Dat.as]
theorem Dat.as_eq {d : Dat} {t : Ty} {p : An × t.den} (h : d.as t = some p) : d = ⟨t, p.1, p.2⟩ := by
  unfold Dat.as at h
  split at h
  · rename_i e
    cases d; subst e; simp at h; subst h; rfl
  · cases h

/-- A part of represented data is represented by its own cells, and the whole turns with it. -/
theorem Rep.focus {w : World} {t : Ty} {a : An} {x : t.den} {cs : List Value} {O R : List Nat} (h : Rep w t a x cs O R) {o n : Nat} {d : Dat}
    (hs : sub t a x o n = some d) :
    ∃ c0 c1 c2 O0 O1 O2 R0 R1 R2, cs = c0 ++ c1 ++ c2 ∧ c0.length = o ∧ n = d.t.sz ∧ O = O0 ++ O1 ++ O2 ∧ R = R0 ++ R1 ++ R2 ∧ Rep w d.t d.a d.x c1 O1 R1 ∧
      ∀ (w' : World) (a' : An) (x' : d.t.den) (c' : List Value) (O' R' : List Nat), (∀ b, b ∈ O0 ∨ b ∈ O2 ∨ b ∈ R0 ∨ b ∈ R2 → w'.heap[b]? = w.heap[b]?) → Rep w' d.t a' x' c' O' R' →
        ∃ p, upd t a x o n ⟨d.t, a', x'⟩ = some p ∧ Rep w' t p.1 p.2 (c0 ++ c' ++ c2) (O0 ++ O' ++ O2) (R0 ++ R' ++ R2) := by
  induction t generalizing a cs O R o with
  | pair t u iht ihu =>
    simp only [sub] at hs
    cases e1 : ((o == 0) && (n == t.sz + u.sz)) with
    | true =>
      simp only [e1, cond_true, Option.some.injEq] at hs
      subst hs
      simp at e1
      refine ⟨[], cs, [], [], O, [], [], R, [], by simp, by simp [e1.1], by simp [Ty.sz, e1.2], by simp, by simp, h, ?_⟩
      intro w' a' x' c' O' R' _ h'
      refine ⟨(a', x'), ?_, by simpa using h'⟩
      simp only [upd, e1, beq_self_eq_true, Bool.and_self, cond_true]
      exact Dat.as_self ⟨.pair t u, a', x'⟩
    | false =>
      simp only [e1, cond_false] at hs
      obtain ⟨c1, c2, O1, O2, R1, R2, rfl, rfl, rfl, h1, h2⟩ := h
      have l1 := h1.len.1
      cases e2 : Nat.ble (o + n) t.sz with
      | true =>
        simp only [e2, cond_true] at hs
        obtain ⟨d0, d1, d2, P0, P1, P2, Q0, Q1, Q2, rfl, hl, hn, rfl, rfl, hd, hw⟩ := iht h1 hs
        refine ⟨d0, d1, d2 ++ c2, P0, P1, P2 ++ O2, Q0, Q1, Q2 ++ R2, by simp, hl, hn, by simp, by simp, hd, ?_⟩
        intro w' a' x' c' O' R' hf h'
        obtain ⟨p, hp, hr⟩ := hw w' a' x' c' O' R' (fun b hb => hf b (by simp; grind)) h'
        refine ⟨(An.mkp p.1 a.r, (p.2, x.2)), ?_, ?_⟩
        · simp only [upd, e1, e2, cond_false, cond_true, hp, Option.map_some]
        · refine ⟨d0 ++ c' ++ d2, c2, P0 ++ O' ++ P2, O2, Q0 ++ R' ++ Q2, R2, by simp, by simp, by simp, by rw [An.mkp_l]; exact hr, ?_⟩
          rw [An.mkp_r]
          exact h2.frame (fun b hb => hf b (by simp; grind)) (fun b hb => hf b (by simp; grind))
      | false =>
        simp only [e2, cond_false] at hs
        cases e3 : Nat.ble t.sz o with
        | false => simp [e3] at hs
        | true =>
          simp only [e3, cond_true] at hs
          obtain ⟨d0, d1, d2, P0, P1, P2, Q0, Q1, Q2, rfl, hl, hn, rfl, rfl, hd, hw⟩ := ihu h2 hs
          have hge : t.sz ≤ o := by simpa [Nat.ble_eq] using e3
          refine ⟨c1 ++ d0, d1, d2, O1 ++ P0, P1, P2, R1 ++ Q0, Q1, Q2, by simp, by simp [hl, l1]; omega, hn, by simp, by simp, hd, ?_⟩
          intro w' a' x' c' O' R' hf h'
          obtain ⟨p, hp, hr⟩ := hw w' a' x' c' O' R' (fun b hb => hf b (by simp; grind)) h'
          refine ⟨(An.mkp a.l p.1, (x.1, p.2)), ?_, ?_⟩
          · simp only [upd, e1, e2, e3, cond_false, cond_true, hp, Option.map_some]
          · refine ⟨c1, d0 ++ c' ++ d2, O1, P0 ++ O' ++ P2, R1, Q0 ++ R' ++ Q2, by simp, by simp, by simp, ?_, by rw [An.mkp_r]; exact hr⟩
            rw [An.mkp_l]
            exact h1.frame (fun b hb => hf b (by simp; grind)) (fun b hb => hf b (by simp; grind))
  | int k | bool | str | sl e =>
    simp only [sub] at hs
    cases e1 : ((o == 0) && (n == 1)) with
    | false => simp [e1] at hs
    | true =>
      simp only [e1, cond_true, Option.some.injEq] at hs
      subst hs
      simp at e1
      refine ⟨[], cs, [], [], O, [], [], R, [], by simp, by simp [e1.1], by simp [Ty.sz, e1.2], by simp, by simp, h, ?_⟩
      intro w' a' x' c' O' R' _ h'
      refine ⟨(a', x'), ?_, by simpa using h'⟩
      simp only [upd, e1, beq_self_eq_true, Bool.and_self, cond_true]
      exact Dat.as_self ⟨_, a', x'⟩

/-- One element of a represented list, and the list with another one. -/
theorem RepL.focus {α : Type} {f : World → α → List Value → List Nat → List Nat → Prop} {w : World} {n : Nat} {xs : List α} {cs : List Value} {O R : List Nat}
    (h : RepL (f w) xs cs O R) (hlen : ∀ w x c O1 R1, f w x c O1 R1 → c.length = n)
    (hframe : ∀ w w' x c O1 R1, f w x c O1 R1 → (∀ b ∈ O1, w'.heap[b]? = w.heap[b]?) → (∀ b ∈ R1, w'.heap[b]? = w.heap[b]?) → f w' x c O1 R1)
    {i : Nat} {x : α} (hx : xs[i]? = some x) :
    ∃ c0 c1 c2 O0 O1 O2 R0 R1 R2, cs = c0 ++ c1 ++ c2 ∧ c0.length = i * n ∧ O = O0 ++ O1 ++ O2 ∧ R = R0 ++ R1 ++ R2 ∧ f w x c1 O1 R1 ∧
      ∀ (w' : World) (x' : α) (c' : List Value) (O' R' : List Nat), (∀ b, b ∈ O0 ∨ b ∈ O2 ∨ b ∈ R0 ∨ b ∈ R2 → w'.heap[b]? = w.heap[b]?) → f w' x' c' O' R' →
        RepL (f w') (xs.set i x') (c0 ++ c' ++ c2) (O0 ++ O' ++ O2) (R0 ++ R' ++ R2) := by
  induction xs generalizing cs O R i with
  | nil => simp at hx
  | cons y ys ih =>
    obtain ⟨c1, c2, O1, O2, R1, R2, rfl, rfl, rfl, h1, h2⟩ := h
    cases i with
    | zero =>
      simp at hx
      subst hx
      refine ⟨[], c1, c2, [], O1, O2, [], R1, R2, by simp, by simp, by simp, by simp, h1, ?_⟩
      intro w' x' c' O' R' hf h'
      refine ⟨c', c2, O', O2, R', R2, by simp, by simp, by simp, h', ?_⟩
      exact h2.imp fun z _ c Oz Rz ho hr hz => hframe w w' z c Oz Rz hz (fun b hb => hf b (by simp [ho b hb])) (fun b hb => hf b (by simp [hr b hb]))
    | succ i =>
      simp at hx
      obtain ⟨d0, d1, d2, P0, P1, P2, Q0, Q1, Q2, rfl, hl, rfl, rfl, hd, hw⟩ := ih h2 hx
      have l1 := hlen _ _ _ _ _ h1
      refine ⟨c1 ++ d0, d1, d2, O1 ++ P0, P1, P2, R1 ++ Q0, Q1, Q2, by simp, by simp [hl, l1, Nat.add_mul, Nat.add_comm], by simp, by simp, hd, ?_⟩
      intro w' x' c' O' R' hf h'
      have := hw w' x' c' O' R' (fun b hb => hf b (by simp; grind)) h'
      refine ⟨c1, d0 ++ c' ++ d2, O1, P0 ++ O' ++ P2, R1, Q0 ++ R' ++ Q2, by simp, by simp, by simp, ?_, this⟩
      exact hframe w w' y c1 O1 R1 h1 (fun b hb => hf b (by simp; grind)) (fun b hb => hf b (by simp; grind))

end Go.Vm
