/- One operation of the evaluator Vm is the machine's. Own work; lemmas. No condition. -/
import Derived.Test.YthnkkchlgepdaaaVmZe
namespace Go.Vm
open Go.RowKit
set_option linter.unusedVariables false

section
variable {P : Program} {w : World} {env : Env} {tmps : Array Value} {Of Rf : Nat → List Nat} {o : Oper} {d : Nat}

/-- no call -/
def Act.nc : Act → Prop
  | .call _ _ _ _ _ => False
  | _ => True

theorem put_nc {pre hyp : Option Prop} {ws : List Nat} {v : V} : (put env d pre hyp ws v).nc := trivial
theorem mv_nc {v : V} : (mv env d v).nc := by cases v <;> trivial
theorem bif_nc {b : Bool} {x y : Act} (hx : x.nc) (hy : y.nc) : (bif b then x else y).nc := by cases b <;> assumption
theorem mvMove_nc {x : Operand} : (mvMove env d x).nc := by
  unfold mvMove
  cases x <;> simp only
  · split
    · exact bif_nc trivial put_nc
    · exact mv_nc
  all_goals exact mv_nc
theorem assign_nc {al : List Nat} {x : Operand} : (assign env al d x).nc := by
  unfold assign
  split
  · refine bif_nc mv_nc (bif_nc (bif_nc ?_ trivial) (bif_nc ?_ trivial))
    · split <;> trivial
    · split <;> first | exact put_nc | trivial
  · exact mv_nc
theorem numb_nc {k : IntKind} {n : Int} : (numb env d k n).nc := put_nc
theorem yes_nc {b : Bool} : (yes env d b).nc := put_nc
theorem intOp_nc {op : BinOp} {k : IntKind} {a b : Int} : (intOp env d op k a b).nc := by
  unfold intOp; cases op <;> first | exact numb_nc | exact yes_nc | exact put_nc | exact bif_nc put_nc trivial | trivial
theorem shiftOp_nc {op : BinOp} {k : IntKind} {a b : Int} : (shiftOp env d op k a b).nc := by
  unfold shiftOp; cases op <;> first | exact put_nc | trivial
theorem eqOp_nc {op : BinOp} {b : Bool} : (eqOp env d op b).nc := by
  unfold eqOp; cases op <;> first | exact yes_nc | trivial
theorem binop_nc {T : Tab} {op : BinOp} {t : TypeId} {x y : V} : (binop T env d op t x y).nc := by
  unfold binop
  split
  · exact bif_nc shiftOp_nc (bif_nc intOp_nc trivial)
  · split
    · split
      · exact bif_nc eqOp_nc trivial
      · trivial
    · trivial
  · trivial
theorem unop_nc {op : UnOp} {v : V} : (unopAct env d op v).nc := by
  unfold unopAct; split <;> first | exact yes_nc | exact numb_nc | trivial
theorem conv_nc {T : Tab} {t : TypeId} {v : V} : (convAct T env d t v).nc := by
  unfold convAct
  split
  · split
    · split <;> exact put_nc
    · exact put_nc
    · trivial
  · trivial
theorem len_nc {T : Tab} {t : TypeId} {v : V} : (lenAct T env d t v).nc := by
  unfold lenAct
  split
  · split
    · split
      · split <;> first | exact put_nc | trivial
      · exact put_nc
      · exact put_nc
      · trivial
    · split <;> first | exact put_nc | trivial
    · trivial
  · trivial
theorem minmax_nc {mx : Bool} {vs : List V} : (minmax env d mx vs).nc := by
  unfold minmax; split <;> first | exact put_nc | trivial
theorem slice_nc {T : Tab} {t : TypeId} {v : V} {l h : Option Int} : (sliceAct T env d t v l h).nc := by
  unfold sliceAct
  split
  · split
    · exact bif_nc put_nc trivial
    · trivial
  · split
    · exact bif_nc put_nc trivial
    · trivial
  · trivial
theorem indexAddr_nc {T : Tab} {t : TypeId} {v : V} {n : Int} : (indexAddrAct T env d t v n).nc := by
  unfold indexAddrAct
  split
  · split
    · exact bif_nc put_nc trivial
    · trivial
  · split
    · exact bif_nc put_nc trivial
    · trivial
  · trivial
theorem extract_nc {x : Operand} {i : Nat} : (extractAct env d x i).nc := by
  unfold extractAct
  split
  · refine bif_nc trivial ?_
    split
    · split
      · exact bif_nc put_nc put_nc
      · trivial
    · trivial
  · trivial
theorem field_nc {T : Tab} {t : TypeId} {arr : Bool} {v : V} {f : Nat} : (fieldAct T env d t arr v f).nc := by
  unfold fieldAct
  split
  · refine bif_nc trivial ?_
    split
    · split
      · exact bif_nc put_nc trivial
      · trivial
    · trivial
  · refine bif_nc trivial ?_
    split
    · refine bif_nc trivial ?_
      split <;> first | exact put_nc | trivial
    · trivial
  · trivial
theorem append_nc {T : Tab} {t : TypeId} {a b : V} : (appendAct T env d t a b).nc := by
  unfold appendAct
  split
  · split
    · split
      · split
        · exact bif_nc put_nc trivial
        · trivial
      · trivial
    · trivial
  · trivial
theorem store_nc {T : Tab} {t : TypeId} {a b : V} : (storeAct T env t a b).nc := by
  unfold storeAct
  split
  · split
    · split
      · refine bif_nc trivial ?_
        split
        · simp only
          split <;> trivial
        · simp only
          split
          · exact bif_nc trivial trivial
          · trivial
        · trivial
      · trivial
    · trivial
  · trivial
theorem makeFunc_nc {fn : Fn} {first : List Operand} {ls : Option (List Lk)} : (makeFuncAct env d fn first ls).nc := by
  unfold makeFuncAct; split <;> first | exact put_nc | trivial

theorem act_nc {T : Tab} {S : SigTab} {al : List Nat} (hc : opCalls o = false) : (act T S al env o).nc := by
  unfold act
  cases hod : o.dst with
  | none =>
    simp only
    cases ho : o.op <;> first | exact store_nc | trivial
  | some d =>
    simp only
    cases ho : o.op with
    | move x => exact mvMove_nc
    | assign x => exact assign_nc
    | pick c a b =>
      simp only
      split
      · split
        · exact yes_nc
        · exact mv_nc
      · trivial
    | alloc t => simp only; split <;> first | exact put_nc | trivial
    | box t x =>
      simp only
      split
      · split <;> first | exact put_nc | trivial
      · trivial
    | load t a =>
      simp only
      split
      · split
        · exact bif_nc mv_nc trivial
        · trivial
      · split
        · exact bif_nc put_nc trivial
        · trivial
      · trivial
    | nilCheck x =>
      simp only
      split
      · exact bif_nc mv_nc trivial
      · trivial
    | fieldAddr s x f =>
      simp only
      split
      · split
        · exact bif_nc mv_nc trivial
        · trivial
      · split
        · exact bif_nc mv_nc trivial
        · trivial
      · trivial
    | indexAddr t x i =>
      simp only
      split
      · exact indexAddr_nc
      · trivial
    | binOp op t x y t' => exact binop_nc
    | unOp op t x => exact unop_nc
    | convert s t x =>
      simp only
      split
      · exact conv_nc
      · trivial
    | buildSlice t n parts =>
      simp only
      split
      · split
        · refine bif_nc ?_ trivial
          split <;> first | exact put_nc | trivial
        · trivial
      · trivial
    | build t parts =>
      simp only
      split
      · refine bif_nc trivial ?_
        split <;> first | exact put_nc | trivial
      · trivial
    | makeSlice t n m =>
      simp only
      split
      · split
        · exact bif_nc put_nc trivial
        · exact bif_nc put_nc trivial
        · trivial
      · trivial
    | slice t x lo hi mx =>
      simp only
      split
      · exact slice_nc
      · trivial
    | extract x i => exact extract_nc
    | field t x f => exact field_nc
    | index t x i =>
      simp only
      split
      · exact field_nc
      · trivial
    | makeFunc fn first captured => exact makeFunc_nc
    | call c =>
      simp only
      unfold callOp
      obtain ⟨callee, args, argTypes⟩ := c
      cases callee with
      | invoke _ _ => trivial
      | value f => simp [opCalls, ho] at hc
      | builtin b =>
        simp only
        split
        · split
          · exact len_nc
          · trivial
        · exact minmax_nc
        · exact minmax_nc
        · split
          · exact bif_nc append_nc trivial
          · trivial
        · trivial
    | _ => trivial

theorem gactB_nc {cx : Cx} {b : Bool} (hc : opCalls o = false) : (gactB cx o b env).nc := by
  cases b with
  | true => exact act_nc hc
  | false =>
    simp only [gactB]
    split <;> trivial

/-- a call's operation -/
theorem act_call {T : Tab} {S : SigTab} {al : List Nat} {g : FuncId} {sg : Sig} {x : sg.argT.den} {ws : List Nat} {k : sg.resT.den → sg.outT.den → Env} (h : act T S al env o = .call g sg x ws k) :
    ∃ d f xs ts g' caps, o.dst = some d ∧ o.op = .call ⟨.value f, xs, ts⟩ ∧ opnd env f = .fnc g' caps ∧ callAct S env d g' (xs.toList.map (opnd env) ++ caps.map V.ptr) = .call g sg x ws k := by
  have hoc : opCalls o = true := by
    cases hc : opCalls o with
    | true => rfl
    | false =>
      have := act_nc (env := env) (T := T) (S := S) (al := al) hc
      rw [h] at this; exact this.elim
  unfold opCalls at hoc
  cases ho : o.op with
  | call c =>
    obtain ⟨callee, args, argTypes⟩ := c
    cases hod : o.dst with
    | none => simp only [act, hod, ho] at h; cases h
    | some d =>
      simp only [act, hod, ho, callOp] at h
      cases callee with
      | invoke _ _ => cases h
      | builtin b => rw [ho] at hoc; simp at hoc
      | value f =>
        simp only at h
        split at h
        · rename_i g' caps hf
          exact ⟨d, f, args, argTypes, g', caps, rfl, rfl, hf, h⟩
        · cases h
  | _ => rw [ho] at hoc; simp at hoc

/-- the functions of the signatures are there -/
def SigOk (P : Program) (S : SigTab) : Prop := ∀ e ∈ S, FnOk P e.1.1

theorem lookup_mem {β : Type} {k : FuncId × List FuncId} {v : β} : ∀ {l : List ((FuncId × List FuncId) × β)}, List.lookup k l = some v → (k, v) ∈ l
  | [], h => by simp at h
  | (k', v') :: l, h => by
    simp only [List.lookup] at h
    split at h
    · rename_i e
      have : k = k' := by simpa using e
      subst this
      cases h; simp
    · exact List.mem_cons_of_mem _ (lookup_mem h)

/-- what the machine does at an operation that runs, or is left out -/
def OpRun (P : Program) (Q : Exit → Go.Act → World → Prop) (o : Oper) (b : Bool) (tmps : Array Value) (w : World) (R : Array Value → World → Prop) : Prop :=
  match b with
  | true => o.wp P ⟨tmps, []⟩ w (fun a w' => a.defers = [] ∧ R a.tmps w') Q
  | false => R ((⟨tmps, []⟩ : Go.Act).put o.dst undef).tmps w

theorem Stp.refl (h : Rel w env tmps Of Rf) : Stp w env tmps Of Rf w env tmps Of Rf [] :=
  ⟨h, rfl, rfl, rfl, Nat.le_refl _, fun _ _ _ => rfl, fun s b hb => .inl ⟨s, hb⟩, fun s b hb => .inl ⟨s, .inr hb⟩, .refl _ _ _, fun _ _ => ⟨rfl, rfl, rfl, rfl⟩, rfl⟩

theorem gactB_sound {cx : Cx} (hT : TabOk P cx.T) (hS : SigOk P cx.S) (h : Rel w env tmps Of Rf) (hd : ∀ d, o.dst = some d → d < env.length) {b : Bool} {Q : Exit → Go.Act → World → Prop} {K : Option Prop → Env → Prop}
    (hk : wpActD id (CallsT P) (gactB cx o b env) K) :
    OpRun P Q o b tmps w fun t w' => (∃ tmps0 : Array Value, ∃ v, t = ((⟨tmps, []⟩ : Go.Act).put o.dst v).tmps) ∧
      ∃ hyp env' Of' Rf', Stp w env tmps Of Rf w' env' t Of' Rf' (gactB cx o b env).ws ∧ (∀ q, hyp = some q → q) ∧ K hyp env' := by
  cases b with
  | false =>
    simp only [OpRun]
    cases hod : o.dst with
    | none =>
      simp only [gactB, hod, wpActD, id] at hk ⊢
      exact ⟨⟨tmps, undef, rfl⟩, none, env, Of, Rf, Stp.refl h, by simp, hk⟩
    | some d =>
      simp only [gactB, hod, wpActD, id] at hk ⊢
      refine ⟨⟨tmps, undef, rfl⟩, none, _, fset Of d [], fset Rf d [], ?_, by simp, hk⟩
      exact put_ok h (Tk.none h (R1 := []) (by simp)) (hd d hod) (.tup []) undef (O2 := []) (R2 := []) (Wld.refl w) (fun _ _ _ => rfl) (fun _ _ _ _ => rfl)
        (fun env' tmps' hl => ⟨[], rfl, rfl, rfl, rfl⟩) (by simp) (by simp) (by simp) (by simp)
  | true =>
    simp only [OpRun]
    have hact := act_ok (P := P) (S := cx.S) (al := cx.al) hT h hd
    simp only [gactB] at hk ⊢
    cases ha : act cx.T cx.S cx.al env o with
    | bad => rw [ha] at hk; exact hk.elim
    | ok pre hyp u ws =>
      rw [ha] at hk
      have hpre : (∀ p, pre = some p → p) ∧ K hyp u := by
        cases pre with
        | none => exact ⟨by simp, hk⟩
        | some p => exact ⟨fun q hq => by cases hq; exact hk.1, hk.2⟩
      obtain ⟨hh, n, w', tmps', Of', Rf', hrun, hn, st⟩ := hact pre hyp u ws ha hpre.1
      unfold Oper.wp
      rw [hrun]
      cases hod : o.dst with
      | none =>
        rw [hod] at hn
        obtain ⟨rfl, rfl⟩ := hn
        refine ⟨by rw [hod]; rfl, ⟨tmps', undef, by rw [hod]⟩, hyp, u, Of', Rf', ?_, hh, hpre.2⟩
        rw [hod]; exact st
      | some d =>
        rw [hod] at hn
        obtain ⟨v, rfl, rfl⟩ := hn
        refine ⟨by rw [hod]; rfl, ⟨tmps, v, by rw [hod]⟩, hyp, u, Of', Rf', ?_, hh, hpre.2⟩
        rw [hod]; exact st
    | call g sg x ws k =>
      rw [ha] at hk
      obtain ⟨d, f, xs, ts, g', caps, hod, ho, hf, hca⟩ := act_call ha
      obtain ⟨Rf0, hsf, -⟩ := opnd_ok h f
      rw [hf] at hsf
      obtain ⟨-, -, cs, hfv, hcl, hcj⟩ := hsf
      have hd' := hd d hod
      have hok := callAct_ok (P := P) (S := cx.S) h hd' (g := g') (args := xs.toList.map (opnd env) ++ caps.map V.ptr) (vals := xs.toList.map (Go.Act.eval ⟨tmps, []⟩) ++ cs) (by
          intro j v hj
          rcases Nat.lt_or_ge j (xs.toList.map (opnd env)).length with hlt | hge
          · rw [List.getElem?_append_left hlt] at hj
            have hlt' : j < xs.toList.length := by simpa using hlt
            rw [List.getElem?_map] at hj
            cases hx : xs.toList[j]? with
            | none => rw [hx] at hj; simp at hj
            | some X =>
              rw [hx] at hj
              simp only [Option.map_some, Option.some.injEq] at hj
              subst hj
              obtain ⟨R', h1, h2⟩ := opnd_ok h X
              refine ⟨_, R', ?_, h1, h2⟩
              rw [List.getElem?_append_left (by simpa using hlt'), List.getElem?_map, hx]; rfl
          · rw [List.getElem?_append_right hge] at hj
            rw [List.getElem?_map] at hj
            cases hx : caps[j - (xs.toList.map (opnd env)).length]? with
            | none => rw [hx] at hj; simp at hj
            | some l =>
              rw [hx] at hj
              simp only [Option.map_some, Option.some.injEq] at hj
              subst hj
              obtain ⟨v, h1, h2⟩ := hcj _ l hx
              refine ⟨v, [], ?_, ⟨rfl, rfl, h2⟩, by simp⟩
              rw [List.getElem?_append_right (by simpa using hge)]
              simpa using h1) (by simp [hcl])
      rw [hca] at hok
      obtain ⟨rfl, hok⟩ := hok
      have hg : FnOk P g := by
        unfold callAct at hca
        split at hca
        · cases hca
        · rename_i sg' hsg
          exact hS _ (lookup_mem hsg)
      have hrun := run_enter (w := w) hg ho hfv
      unfold Oper.wp
      rw [hrun]
      have hvals : (xs.toList.map (Go.Act.eval ⟨tmps, []⟩) ++ cs).toArray = xs.map (Go.Act.eval ⟨tmps, []⟩) ++ cs.toArray := by apply Array.ext'; simp
      simp only [Oper.upon]
      rw [← hvals]
      refine (hok _ hk).mono fun e w' => ?_
      rintro ⟨v, r, oo, Of', Rf', rfl, hK, st⟩
      simp only
      refine ⟨by rw [hod]; rfl, ⟨tmps, v, rfl⟩, none, k r oo, Of', Rf', ?_, by simp, hK⟩
      rw [hod]; exact st

end
end Go.Vm
