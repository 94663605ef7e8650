/- The slots behind a call of the evaluator Vm, given back. Own work; lemmas. No condition. -/
import Derived.Test.YthnkkchlgepdaaaVmZa
namespace Go.Vm
open Go.RowKit
set_option linter.unusedVariables false

section
variable {P : Program} {w : World} {env : Env} {tmps : Array Value} {Of Rf : Nat → List Nat} {o : Oper} {d : Nat}

theorem toDats_append : ∀ (caps : List (Ty × An)) (d1 d2 : List (Σ t : Ty, t.den)), d1.length = caps.length → toDats caps (d1 ++ d2) = toDats caps d1
  | [], [], d2, h => by cases d2 <;> rfl
  | [], _ :: _, d2, h => by simp at h
  | _ :: _, [], d2, h => by simp at h
  | (t, a) :: caps, ⟨u, x⟩ :: d1, d2, h => by
    simp only [List.cons_append, toDats]
    rw [toDats_append caps d1 d2 (by simpa using h)]

theorem OfAll_fset {f : Nat → List Nat} {s : Nat} {x : List Nat} : ∀ {ss : List Nat}, s ∉ ss → OfAll (fset f s x) ss = OfAll f ss
  | [], _ => rfl
  | t :: ss, h => by
    simp only [List.mem_cons, not_or] at h
    simp only [OfAll]
    rw [fset_ne _ _ (Ne.symm h.1), OfAll_fset h.2]

def KindV : Back → V → Prop
  | .box _ _ _, v => ∃ t a x, v = .box t a x
  | .row _ _ _ _, v => ∃ t a x, v = .dat t a x
  | .clo _ _ _, v => ∃ f ds, v = .fnv f ds

theorem giveBack_ok : ∀ (bs : List Back) {env : Env} {ds : List (Σ t : Ty, t.den)} {O R : List Nat}, BackRep w tmps bs ds O R → (bs.map Back.s).Nodup → (∀ s ∈ bs.map Back.s, s < env.length) →
    ∃ Ob Rb : Nat → List Nat, O = OfAll Ob (bs.map Back.s) ∧ R = OfAll Rb (bs.map Back.s) ∧ (giveBack env bs ds).length = env.length ∧ (∀ s, s ∉ bs.map Back.s → get (giveBack env bs ds) s = get env s) ∧
      ∀ b ∈ bs, ∃ v, get (giveBack env bs ds) b.s = (get env b.s).form v ∧ (∀ e, SlotOk w e tmps v (tv tmps b.s) (Ob b.s) (Rb b.s)) ∧ KindV b v := by
  intro bs
  induction bs with
  | nil =>
    intro env ds O R h hnd hlt
    obtain ⟨rfl, rfl, rfl⟩ := h
    exact ⟨fun _ => [], fun _ => [], rfl, rfl, rfl, fun _ _ => rfl, by simp⟩
  | cons b bs ih =>
    intro env ds O R h hnd hlt
    simp only [List.map_cons, List.nodup_cons] at hnd
    -- the step, once
    have step : ∀ (v : V) (d2 : List (Σ t : Ty, t.den)) (O1 O2 R1 R2 : List Nat), giveBack env (b :: bs) ds = giveBack (env.set b.s ((get env b.s).form v)) bs d2 → O = O1 ++ O2 → R = R1 ++ R2 →
        (∀ e, SlotOk w e tmps v (tv tmps b.s) O1 R1) → KindV b v → BackRep w tmps bs d2 O2 R2 →
        ∃ Ob Rb : Nat → List Nat, O = OfAll Ob ((b :: bs).map Back.s) ∧ R = OfAll Rb ((b :: bs).map Back.s) ∧ (giveBack env (b :: bs) ds).length = env.length ∧ (∀ s, s ∉ (b :: bs).map Back.s → get (giveBack env (b :: bs) ds) s = get env s) ∧
          ∀ b' ∈ b :: bs, ∃ v, get (giveBack env (b :: bs) ds) b'.s = (get env b'.s).form v ∧ (∀ e, SlotOk w e tmps v (tv tmps b'.s) (Ob b'.s) (Rb b'.s)) ∧ KindV b' v := by
      intro v d2 O1 O2 R1 R2 hg hO hR hs hk hb
      have hbl : b.s < env.length := hlt b.s (by simp)
      obtain ⟨Ob, Rb, h1, h2, h3, h4, h5⟩ := ih (env := env.set b.s ((get env b.s).form v)) hb hnd.2 (fun s hs => by simpa using hlt s (by simp only [List.map_cons, List.mem_cons]; exact .inr hs))
      have hget : ∀ s, get (env.set b.s ((get env b.s).form v)) s = if s = b.s then (get env b.s).form v else get env s := fun s => get_set _ _ _ _ hbl
      refine ⟨fset Ob b.s O1, fset Rb b.s R1, ?_, ?_, ?_, ?_, ?_⟩
      · simp only [List.map_cons, OfAll, fset_same]
        rw [OfAll_fset hnd.1, ← h1]; exact hO
      · simp only [List.map_cons, OfAll, fset_same]
        rw [OfAll_fset hnd.1, ← h2]; exact hR
      · rw [hg, h3]; simp
      · intro s hs
        simp only [List.map_cons, List.mem_cons, not_or] at hs
        rw [hg, h4 s hs.2, hget, if_neg hs.1]
      · intro b' hb'
        by_cases e : b'.s = b.s
        · have hb2 : b' = b ∨ b' ∈ bs := by simpa using hb'
          rcases hb2 with rfl | hb2
          · refine ⟨v, ?_, ?_, hk⟩
            · rw [hg, h4 b'.s hnd.1, hget, if_pos rfl]
            · rw [fset_same, fset_same]; exact hs
          · exact absurd (List.mem_map.2 ⟨b', hb2, e⟩) hnd.1
        · have hb2 : b' ∈ bs := by
            rcases List.mem_cons.1 hb' with rfl | hb2
            · exact absurd rfl e
            · exact hb2
          obtain ⟨v', k1, k2, k3⟩ := h5 b' hb2
          refine ⟨v', ?_, ?_, k3⟩
          · rw [hg, k1, hget, if_neg e]
          · rw [fset_ne _ _ e, fset_ne _ _ e]; exact k2
    cases b with
    | box s t a =>
      obtain ⟨x, d2, O1, O2, R1, R2, rfl, hO, hR, hb, hr⟩ := h
      exact step (.box t a x) d2 O1 O2 R1 R2 rfl hO hR (fun e => hb) ⟨t, a, x, rfl⟩ hr
    | row s e el a =>
      obtain ⟨x, d2, O1, O2, R1, R2, rfl, hO, hR, hb, hr⟩ := h
      exact step (.dat (.sl e) (.own el a) x) d2 O1 O2 R1 R2 rfl hO hR (fun _ => ⟨[tv tmps s], rfl, hb⟩) ⟨_, _, _, rfl⟩ hr
    | clo s f caps =>
      obtain ⟨vs, d1, d2, O1, O2, R1, R2, rfl, hO, hR, hv, hd, hl, hr⟩ := h
      have hlen : d1.length = caps.length := by have := congrArg List.length hd; simpa using this
      refine step (.fnv f (toDats caps d1)) d2 O1 O2 R1 R2 ?_ hO hR (fun e => ⟨vs, hv, hl⟩) ⟨_, _, rfl⟩ hr
      simp only [giveBack]
      rw [toDats_append caps d1 d2 hlen, ← hlen, List.drop_left]
      rfl

end
end Go.Vm
