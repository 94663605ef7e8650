/- Links behind a call of the evaluator Vm; what reads nothing. Own work; lemmas. No condition. -/
import Derived.Test.YthnkkchlgepdaaaVmV
namespace Go.Vm
open Go.RowKit
set_option linter.unusedVariables false

section
variable {P : Program} {w : World} {env : Env} {tmps : Array Value} {Of Rf : Nat → List Nat} {o : Oper} {d : Nat}

theorem RepL.noR {α : Type} {f : α → List Value → List Nat → List Nat → Prop} {xs : List α} {cs : List Value} {O R : List Nat} (h : RepL f xs cs O R) (hf : ∀ x c O1 R1, f x c O1 R1 → R1 = []) : R = [] := by
  induction xs generalizing cs O R with
  | nil => exact h.2.2
  | cons x xs ih =>
    obtain ⟨c1, c2, O1, O2, R1, R2, rfl, rfl, rfl, h1, h2⟩ := h
    rw [hf _ _ _ _ h1, ih h2]; rfl

theorem Rep.noR {t : Ty} {a : An} {x : t.den} {cs : List Value} {O R : List Nat} (h : Rep w t a x cs O R) (hr : t.hasRo a = false) : R = [] := by
  induction t generalizing a cs O R with
  | int k => cases a <;> (obtain ⟨-, h, -⟩ := h; exact h)
  | bool => cases a <;> (obtain ⟨-, h, -⟩ := h; exact h)
  | str => cases a <;> (obtain ⟨-, h, -⟩ := h; exact h)
  | pair t u iht ihu =>
    obtain ⟨c1, c2, O1, O2, R1, R2, rfl, rfl, rfl, h1, h2⟩ := h
    simp only [Ty.hasRo, Bool.or_eq_false_iff] at hr
    rw [iht h1 hr.1, ihu h2 hr.2]; rfl
  | sl e ih =>
    cases a with
    | own el ae =>
      obtain ⟨v, cells, O', rfl, ho, hm, rfl, hl⟩ := h
      exact hl.noR fun x c O1 R1 hx => ih hx hr
    | _ => simp [Ty.hasRo] at hr

/-- how a slot may turn: not at all, into something new, or in form -/
def Turn (w : World) (env : Env) (tmps : Array Value) (Of : Nat → List Nat) (w' : World) (env' : Env) (tmps' : Array Value) (s : Nat) : Prop :=
  (get env' s = get env s ∧ tv tmps' s = tv tmps s ∧ ∀ b ∈ Of s, w'.heap[b]? = w.heap[b]?) ∨
  ((get env s).now < (get env' s).ver ∧ (get env s).now ≤ (get env' s).now) ∨
  ((get env s).now < (get env' s).cver ∧ (get env s).now ≤ (get env' s).now ∧ (get env' s).ver = (get env s).ver ∧ tv tmps' s = tv tmps s ∧
    ∀ D cs bk, obj w (get env s).v (tv tmps s) = some (D, cs, bk) → ∃ D' cs', obj w' (get env' s).v (tv tmps s) = some (D', cs', bk))

theorem links_gen {w' : World} {env' : Env} {tmps' : Array Value} (h : Rel w env tmps Of Rf) (hT : ∀ s, Turn w env tmps Of w' env' tmps' s) : Links w env tmps w' env' tmps' := by
  refine ⟨fun l x hl => ?_, fun l cut x hl => ?_, fun s t x hl => ?_⟩
  · rcases hT l.s with ⟨h1, h2, h3⟩ | ⟨h1, h2⟩ | ⟨h1, h2, h3, h4, h5⟩
    · refine ⟨by rw [h1]; exact hl.1, fun hf => ?_⟩
      rw [freshP_congr h1] at hf
      obtain ⟨cs, b, k, hloc, hx⟩ := hl.2 hf
      exact ⟨cs, b, k, by rw [locOf_frame h h1 h2 h3]; exact hloc, hx⟩
    · refine ⟨Nat.le_trans hl.1 h2, fun hf => ?_⟩
      unfold freshP at hf
      simp only [Bool.and_eq_true, Nat.ble_eq] at hf
      have := hl.1
      omega
    · refine ⟨Nat.le_trans hl.1 h2, fun hf => ?_⟩
      unfold freshP at hf
      simp only [Bool.and_eq_true, Bool.or_eq_true, Nat.ble_eq] at hf
      have h6 := hl.1
      have hst : l.st = [] := by
        rcases hf.2 with hs | ⟨hs, -⟩
        · simpa using hs
        · omega
      have hfr : freshP env l = true := by
        unfold freshP
        rw [hst]
        simp [Nat.ble_eq, ← h3, hf.1]
      obtain ⟨cs, b, k, hloc, hx⟩ := hl.2 hfr
      unfold locOf at hloc ⊢
      rw [h4]
      cases ho : obj w (get env l.s).v (tv tmps l.s) with
      | none => simp [ho] at hloc
      | some q =>
        obtain ⟨D, cs0, bk⟩ := q
        obtain ⟨D', cs', ho'⟩ := h5 D cs0 bk ho
        rw [ho] at hloc
        rw [ho']
        simp only [hst, loc, Option.some.injEq, Prod.mk.injEq] at hloc ⊢
        obtain ⟨-, rfl⟩ := hloc
        exact ⟨cs', b, k, ⟨rfl, rfl⟩, hx⟩
  · rcases hT l.s with ⟨h1, h2, h3⟩ | ⟨h1, h2⟩ | ⟨h1, h2, h3, h4, h5⟩
    · refine ⟨by rw [h1]; exact hl.1, fun hf => ?_⟩
      rw [freshR_congr h1] at hf
      obtain ⟨cs, bk, hd, hloc, hx⟩ := hl.2 hf
      exact ⟨cs, bk, hd, by rw [locOf_frame h h1 h2 h3]; exact hloc, hx⟩
    · refine ⟨Nat.le_trans hl.1 h2, fun hf => ?_⟩
      unfold freshR at hf
      simp only [Bool.and_eq_true, Nat.ble_eq] at hf
      have := hl.1
      omega
    · refine ⟨Nat.le_trans hl.1 h2, fun hf => ?_⟩
      unfold freshR at hf
      simp only [Bool.and_eq_true, Nat.ble_eq] at hf
      have := hl.1
      omega
  · rcases hT s with ⟨h1, h2, h3⟩ | ⟨h1, h2⟩ | ⟨h1, h2, h3, h4, h5⟩
    · unfold FnlOk at hl ⊢
      rw [h1, h2]; exact hl
    · exact ⟨Nat.le_trans hl.1 h2, fun hf => by have := hl.1; omega⟩
    · refine ⟨Nat.le_trans hl.1 h2, fun hf => ?_⟩
      rw [h4]
      exact hl.2 (by rw [← h3]; exact hf)

/-- how a parameter's data come in (and go out) -/
def ParRep (w : World) (p : Par) (ds : List (Σ t : Ty, t.den)) (v : Value) (O R : List Nat) : Prop :=
  match p with
  | .val t a => ∃ x cs, ds = [⟨t, x⟩] ∧ Packed t cs v ∧ Rep w t a x cs O R
  | .io t a => ∃ x, ds = [⟨t, x⟩] ∧ RepBox w ⟨t, a, x⟩ [v] O R
  | .iol e el a => ∃ x : List e.den, ds = [⟨.sl e, x⟩] ∧ Rep w (.sl e) (.own el a) x [v] O R
  | .fn f caps => ∃ vs : List Value, v = .func (.func f) #[] vs.toArray ∧ ds.map (·.1) = caps.map (·.1) ∧ RepL (RepBox w) (toDats caps ds) vs O R

/-- the arguments -/
def ArgsRep (w : World) : List Par → List (Σ t : Ty, t.den) → List Value → List Nat → List Nat → Prop
  | [], ds, vs, O, R => ds = [] ∧ vs = [] ∧ O = [] ∧ R = []
  | p :: ps, ds, vs, O, R => ∃ d1 d2 v vs' O1 O2 R1 R2, ds = d1 ++ d2 ∧ vs = v :: vs' ∧ O = O1 ++ O2 ∧ R = R1 ++ R2 ∧ ParRep w p d1 v O1 R1 ∧ ArgsRep w ps d2 vs' O2 R2

/-- what comes back by parameters: each at the value that went in -/
def ParOut (w : World) (p : Par) (ds : List (Σ t : Ty, t.den)) (v : Value) (O R : List Nat) : Prop :=
  match p with
  | .val _ _ => ds = [] ∧ O = [] ∧ R = []
  | p => ParRep w p ds v O R

def OutsRep (w : World) : List Par → List (Σ t : Ty, t.den) → List Value → List Nat → List Nat → Prop
  | [], ds, vs, O, R => ds = [] ∧ vs = [] ∧ O = [] ∧ R = []
  | p :: ps, ds, vs, O, R => ∃ d1 d2 v vs' O1 O2 R1 R2, ds = d1 ++ d2 ∧ vs = v :: vs' ∧ O = O1 ++ O2 ∧ R = R1 ++ R2 ∧ ParOut w p d1 v O1 R1 ∧ OutsRep w ps d2 vs' O2 R2

/-- the result's value -/
def ResRep (w : World) (rs : List (Ty × An)) (ds : List (Σ t : Ty, t.den)) (v : Value) (O R : List Nat) : Prop :=
  match rs with
  | [(t, a)] => ∃ x cs, ds = [⟨t, x⟩] ∧ Packed t cs v ∧ Rep w t a x cs O R
  | rs => ∃ vs : List Value, v = .tuple vs.toArray ∧ ds.map (·.1) = rs.map (·.1) ∧ RepL (RepOne w) (toDats rs ds) vs O R

/-- A GO FUNCTION'S CONTRACT ON DATA. -/
def CallsT (P : Program) (g : FuncId) (sg : Sig) (x : sg.argT.den) (Post : sg.resT.den → sg.outT.den → Prop) : Prop :=
  ∀ (w : World) (vs : List Value) (O R : List Nat), ArgsRep w sg.pars (unt (sg.pars.flatMap Par.inT) x) vs O R → O.Nodup → (∀ b ∈ O, b ∉ R) →
    Calls P g vs.toArray w fun e w' => ∃ v r o O1 R1 O2 R2, e = .returned v ∧ Post r o ∧
      ResRep w' sg.res (unt (sg.res.map (·.1)) r) v O1 R1 ∧ OutsRep w' sg.pars (unt (sg.pars.flatMap Par.outT) o) vs O2 R2 ∧
      (O1 ++ O2).Nodup ∧ (∀ b ∈ O1 ++ O2, b ∉ R1 ++ R2) ∧ (∀ b ∈ O1 ++ O2, b ∈ O ∨ w.heap.size ≤ b) ∧ (∀ b ∈ R1 ++ R2, b ∈ O ∨ b ∈ R ∨ w.heap.size ≤ b) ∧
      (∀ b, b < w.heap.size → b ∉ O → w'.heap[b]? = w.heap[b]?) ∧ Wld w w'

theorem CallsT.mono {g : FuncId} {sg : Sig} {x : sg.argT.den} {Post Post' : sg.resT.den → sg.outT.den → Prop} (h : CallsT P g sg x Post) (hp : ∀ r o, Post r o → Post' r o) : CallsT P g sg x Post' := by
  intro w vs O R h1 h2 h3
  exact (h w vs O R h1 h2 h3).mono fun e w' ⟨v, r, o, O1, R1, O2, R2, he, hpo, rest⟩ => ⟨v, r, o, O1, R1, O2, R2, he, hp r o hpo, rest⟩

end
end Go.Vm
