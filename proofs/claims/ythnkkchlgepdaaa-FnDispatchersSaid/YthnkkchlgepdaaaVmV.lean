/- Every operation of the evaluator Vm that is no call is the machine's. Own work; lemmas. No condition. -/
import Derived.Test.YthnkkchlgepdaaaVmU
namespace Go.Vm
open Go.RowKit
set_option linter.unusedVariables false

section
variable {P : Program} {w : World} {env : Env} {tmps : Array Value} {Of Rf : Nat → List Nat} {o : Oper} {d : Nat}

theorem ptrs_ok (h : Rel w env tmps Of Rf) : ∀ (X : List Operand) {ls : List Lk}, ptrsOf (X.map (opnd env)) = some ls →
    (X.map (Go.Act.eval ⟨tmps, []⟩)).length = ls.length ∧ ∀ (j : Nat) (l : Lk), ls[j]? = some l → ∃ v, (X.map (Go.Act.eval ⟨tmps, []⟩))[j]? = some v ∧ PtrOk w env tmps l v
  | [], ls, hq => by simp [ptrsOf] at hq; subst hq; exact ⟨rfl, by intro j l hj; simp at hj⟩
  | x :: X, ls, hq => by
    obtain ⟨R', hs, -⟩ := opnd_ok h x
    simp only [List.map_cons] at hq
    cases hx : opnd env x with
    | ptr l =>
      rw [hx] at hq hs
      simp only [ptrsOf, Option.map_eq_some_iff] at hq
      obtain ⟨ls', hq, rfl⟩ := hq
      obtain ⟨h1, h2⟩ := ptrs_ok h X hq
      refine ⟨by simpa using h1, fun j l' hj => ?_⟩
      cases j with
      | zero => simp at hj; subst hj; exact ⟨_, by simp, hs.2.2⟩
      | succ j => simpa using h2 j l' (by simpa using hj)
    | _ => rw [hx] at hq; simp [ptrsOf] at hq

theorem makeFunc_ok (h : Rel w env tmps Of Rf) (hod : o.dst = some d) (hd : d < env.length) {fn : Fn} {first captured : Array Operand} (ho : o.op = .makeFunc fn first captured) :
    OpOk P w env tmps Of Rf o (makeFuncAct env d fn first.toList (ptrsOf (captured.toList.map (opnd env)))) := by
  unfold makeFuncAct
  split
  · rename_i f ls hf hls
    obtain ⟨h1, h2⟩ := ptrs_ok h captured.toList hls
    have hf' : first = #[] := by apply Array.ext'; simpa using hf
    subst hf'
    have he : Array.map (Go.Act.eval ⟨tmps, []⟩) captured = (List.map (Go.Act.eval ⟨tmps, []⟩) captured.toList).toArray := by apply Array.ext'; simp
    exact OpOk.put0 h hod hd fun _ => ⟨by simp, .func (.func f) #[] ((captured.toList.map (Go.Act.eval ⟨tmps, []⟩)).toArray), [], by simp only [execOp, ho, Instr.makeFunc, Sem.run_bind, Sem.run_pure, Result.andThen_ok, he, Array.map_empty], ⟨rfl, rfl, _, rfl, h1, h2⟩, by simp⟩
  · exact OpOk.bad

theorem cond_noOk {b : Bool} {X : Act} {pre hyp : Option Prop} {e : Env} {ws : List Nat} (hX : X ≠ .ok pre hyp e ws) : (bif b then X else .bad) ≠ .ok pre hyp e ws := by
  cases b
  · intro h; cases h
  · exact hX

theorem callAct_noOk {S : SigTab} {d g : Nat} {args : List V} {pre hyp : Option Prop} {e : Env} {ws : List Nat} : callAct S env d g args ≠ .ok pre hyp e ws := by
  unfold callAct
  intro h
  split at h
  · cases h
  · split at h
    · cases h
    · split at h
      · simp only at h
        exact cond_noOk (by intro h; cases h) h
      · cases h

theorem act_ok {T : Tab} {S : SigTab} (hT : TabOk P T) (h : Rel w env tmps Of Rf) (hd : ∀ d, o.dst = some d → d < env.length) {al : List Nat} : OpOk P w env tmps Of Rf o (act T S al env o) := by
  unfold act
  cases hod : o.dst with
  | none =>
    simp only
    cases ho : o.op with
    | store t a x => exact storeAct_ok hT h hod ho
    | _ => exact OpOk.bad
  | some d =>
    have hd' := hd d hod
    simp only
    cases ho : o.op with
    | move x => exact move_ok h hod hd' ho
    | assign x => exact assign_ok h hod hd' ho
    | pick c a b => exact pick_ok h hod hd' ho
    | alloc t =>
      simp only
      split
      · rename_i ti ht; exact alloc_ok hT h hod hd' ho ht
      · exact OpOk.bad
    | box t x =>
      simp only
      split
      · rename_i ti ht
        split
        · rename_i q hq; exact box_ok hT h hod hd' ho ht hq
        · exact OpOk.bad
      · exact OpOk.bad
    | load t a => exact load_ok hT h hod hd' ho
    | nilCheck x =>
      simp only
      split
      · rename_i l hx; exact nilCheck_ok h hod hd' ho hx
      · exact OpOk.bad
    | fieldAddr s x f => exact fieldAddr_ok hT h hod hd' ho
    | indexAddr t x i =>
      simp only
      split
      · rename_i a n hi; exact indexAddr_ok hT h hod hd' ho hi
      · exact OpOk.bad
    | binOp op t x y t' => exact binop_ok hT h hod hd' ho
    | unOp op t x => exact unop_ok h hod hd' ho
    | convert s t x =>
      simp only
      split
      · rename_i ti hs
        obtain ⟨ds, hds, -⟩ := (hT s ti hs).1.und
        exact conv_ok hT h hod hd' ho (by rw [hds]; rfl)
      · exact OpOk.bad
    | buildSlice t n parts =>
      simp only
      split
      · rename_i ti hti
        split
        · rename_i e el ae hty han
          cases hb : (parts.size == n) && (parts.toList.map (·.1) == List.range n) && Nat.ble (n * e.sz) 16777216 with
          | false => exact OpOk.bad
          | true =>
            simp only [cond_true]
            simp only [Bool.and_eq_true, beq_iff_eq, Nat.ble_eq] at hb
            split
            · rename_i a xs e1 ws hq
              exact buildSlice_ok hT h hod hd' ho hti hty han hb.1.1 hb.1.2 hb.2 hq
            · exact OpOk.bad
        · exact OpOk.bad
      · exact OpOk.bad
    | build t parts =>
      simp only
      split
      · rename_i ti hti
        cases hp : ti.ty.isPair with
        | false => exact OpOk.bad
        | true =>
          simp only [Bool.not_true, cond_false]
          split
          · rename_i dd e1 ws hq
            exact build_ok hT h hod hd' ho hti hp hq
          · exact OpOk.bad
      · exact OpOk.bad
    | makeSlice t n m =>
      simp only
      split
      · rename_i ti a k a2 k2 hti hn hm
        split
        · rename_i e el ae n1 m1 hty han
          cases hnm : (n1 == m1) with
          | false => exact OpOk.bad
          | true =>
            have : n1 = m1 := by simpa using hnm
            subst this
            exact makeSlice_ok hT h hod hd' ho hti hty han ⟨a, hn⟩ rfl
        · rename_i e el ae n1 m1 hty han
          cases hnm : (n1 == m1) with
          | false => exact OpOk.bad
          | true =>
            have : n1 = m1 := by simpa using hnm
            subst this
            exact makeSlice_ok hT h hod hd' ho hti hty han ⟨a, hn⟩ rfl
        · exact OpOk.bad
      · exact OpOk.bad
    | slice t x lo hi mx =>
      simp only
      split
      · rename_i l? h? hlo hhi
        exact sliceAct_ok hT h hod hd' ho hlo hhi
      · exact OpOk.bad
    | extract x i => exact extract_ok h hod hd' ho
    | field t x f => exact fieldAct_ok hT h hod hd' (.inl ⟨rfl, ho⟩)
    | index t x i =>
      simp only
      split
      · exact fieldAct_ok hT h hod hd' (.inr ⟨rfl, ho⟩)
      · exact OpOk.bad
    | makeFunc fn first captured => exact makeFunc_ok h hod hd' ho
    | call c =>
      simp only
      unfold callOp
      obtain ⟨callee, args, argTypes⟩ := c
      cases callee with
      | invoke _ _ => exact OpOk.bad
      | value f =>
        simp only
        split
        · intro pre hyp env' ws he; exact absurd he callAct_noOk
        · exact OpOk.bad
      | builtin b =>
        simp only
        have arr : ∀ {α : Type} {xs : Array α} {l : List α}, xs.toList = l → xs = l.toArray := by intro α xs l e; apply Array.ext'; simpa using e
        split
        · rename_i v hargs
          split
          · rename_i t ht
            match ha : args.toList, hargs with
            | [X], hargs =>
              rw [arr ha, arr ht] at ho
              simp only [List.map_cons, List.map_nil, List.cons.injEq, and_true] at hargs
              subst hargs
              exact lenAct_ok hT h hod hd' ho
            | [], hargs => simp at hargs
            | _ :: _ :: _, hargs => simp at hargs
          · exact OpOk.bad
        · exact minmax_ok (mx := true) h hod hd' ho
        · exact minmax_ok (mx := false) h hod hd' ho
        · rename_i s x hargs
          split
          · rename_i t u ht
            cases htu : (t == u) with
            | false => exact OpOk.bad
            | true =>
              have : t = u := by simpa using htu
              subst this
              match ha : args.toList, hargs with
              | [X, Y], hargs =>
                rw [arr ha, arr ht] at ho
                simp only [List.map_cons, List.map_nil, List.cons.injEq, and_true] at hargs
                obtain ⟨rfl, rfl⟩ := hargs
                exact appendAct_ok hT h hod hd' ho
              | [], hargs => simp at hargs
              | [_], hargs => simp at hargs
              | _ :: _ :: _ :: _, hargs => simp at hargs
          · exact OpOk.bad
        · exact OpOk.bad
    | _ => exact OpOk.bad

end
end Go.Vm
