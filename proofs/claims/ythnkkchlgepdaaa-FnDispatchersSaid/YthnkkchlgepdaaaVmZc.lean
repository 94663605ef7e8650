/- What was lent is frozen, behind a call of the evaluator Vm. Own work; lemmas. No condition. -/
import Derived.Test.YthnkkchlgepdaaaVmZb
namespace Go.Vm
open Go.RowKit
set_option linter.unusedVariables false

section
variable {P : Program} {w : World} {env : Env} {tmps : Array Value} {Of Rf : Nat → List Nat} {o : Oper} {d : Nat}

def fzV : V → V
  | .dat t _ x => .dat t .ro x
  | .box t _ x => .box t .ro x
  | v => v

theorem freeze_form {sl : Slot} (h : sl.v.frz = true) : freeze sl = sl.form (fzV sl.v) := by
  unfold freeze
  cases hv : sl.v <;> rw [hv] at h <;> first | rfl | simp [V.frz] at h
theorem frz_fz {v : V} (h : v.frz = true) : (fzV v).frz = true := by
  cases v <;> first | rfl | simp [V.frz] at h
theorem fz_fz (v : V) : fzV (fzV v) = fzV v := by cases v <;> rfl

theorem freezeAll_ok : ∀ (ss : List Nat) {env : Env}, (∀ s ∈ ss, s < env.length) → (∀ s ∈ ss, (get env s).v.frz = true) →
    (freezeAll env ss).length = env.length ∧ (∀ s, s ∉ ss → get (freezeAll env ss) s = get env s) ∧
      ∀ s ∈ ss, (get (freezeAll env ss) s).v = fzV (get env s).v ∧ (get (freezeAll env ss) s).ver = (get env s).ver ∧ (get env s).now < (get (freezeAll env ss) s).cver ∧ (get env s).now ≤ (get (freezeAll env ss) s).now := by
  intro ss
  induction ss with
  | nil => intro env hl hf; exact ⟨rfl, fun _ _ => rfl, by simp⟩
  | cons a ss ih =>
    intro env hl hf
    have ha : a < env.length := hl a (by simp)
    have hg : ∀ s, get (env.set a (freeze (get env a))) s = if s = a then (get env a).form (fzV (get env a).v) else get env s := by
      intro s; rw [freeze_form (hf a (by simp))]; exact get_set _ _ _ _ ha
    obtain ⟨h1, h2, h3⟩ := ih (env := env.set a (freeze (get env a))) (fun s hs => by simpa using hl s (by simp [hs])) (fun s hs => by
      rw [hg]
      by_cases e : s = a
      · rw [if_pos e]; exact frz_fz (hf a (by simp))
      · rw [if_neg e]; exact hf s (by simp [hs]))
    simp only [freezeAll]
    refine ⟨by rw [h1]; simp, fun s hs => ?_, fun s hs => ?_⟩
    · simp only [List.mem_cons, not_or] at hs
      rw [h2 s hs.2, hg, if_neg hs.1]
    · by_cases hin : s ∈ ss
      · obtain ⟨k1, k2, k3, k4⟩ := h3 s hin
        rw [hg] at k1 k2 k3 k4
        by_cases e : s = a
        · subst e
          rw [if_pos rfl] at k1 k2 k3 k4
          simp only [Slot.form] at k1 k2 k3 k4
          exact ⟨by rw [k1, fz_fz], k2, by omega, by omega⟩
        · rw [if_neg e] at k1 k2 k3 k4
          exact ⟨k1, k2, k3, k4⟩
      · have e : s = a := by simpa [hin] using hs
        subst e
        rw [h2 s hin, hg, if_pos rfl]
        simp only [Slot.form]
        exact ⟨trivial, trivial, by omega, by omega⟩

/-- a frozen slot's value -/
theorem slot_frozen {v : V} {x : Value} {O R : List Nat} (h : SlotOk w env tmps v x O R) (hf : v.frz = true) :
    ∃ R', (∀ e, SlotOk w e tmps (fzV v) x [] R') ∧ (∀ b ∈ R', b ∈ O ∨ b ∈ R) ∧ ∀ D cs bk, obj w v x = some (D, cs, bk) → ∃ D', obj w (fzV v) x = some (D', cs, bk) := by
  cases v with
  | dat t a y =>
    obtain ⟨cs, hk, hr⟩ := h
    obtain ⟨R', h1, h2⟩ := hr.toRo hf
    refine ⟨R', fun e => ⟨cs, hk, h1⟩, h2, fun D cs' bk ho => ?_⟩
    cases x <;> simp only [obj, Option.some.injEq, Prod.mk.injEq] at ho <;> exact ⟨_, by simp only [fzV, obj]; rw [← ho.2.1, ← ho.2.2]⟩
  | _ => simp [V.frz] at hf

end
end Go.Vm
