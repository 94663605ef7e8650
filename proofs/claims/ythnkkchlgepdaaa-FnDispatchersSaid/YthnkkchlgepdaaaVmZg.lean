/- Regions whose order is fixed, for the evaluator Vm. Own work; lemmas. No condition. -/
import Derived.Test.YthnkkchlgepdaaaVmZf
import Derived.Orders
namespace Go.Vm
open Go.RowKit
set_option linter.unusedVariables false

section
variable {P : Program} {w : World} {env : Env} {tmps : Array Value} {Of Rf : Nat → List Nat} {o : Oper} {d : Nat}

/-- whether an operation runs -/
def gb (ops : Array Oper) (o : Oper) (env : Env) : Option Bool :=
  match o.guard with
  | none => some true
  | some _ => match guardSlot ops o with
    | some (g, b) => match (get env g).v with
      | .dat .bool .ro x => some (x == b)
      | .tup [] => some false
      | _ => none
    | none => none

theorem eset_self {g : Nat} (h : g < env.length) : env.set g (get env g) = env := by
  apply env_ext (by simp)
  intro s hs
  rw [get_set _ _ _ _ h]
  split
  · rename_i e; rw [e]
  · rfl

theorem evGuard_iff {ops : Array Oper} {go : Env → Bool → Prop} : evGuard ops o env go ↔ ∃ b, gb ops o env = some b ∧ go env b := by
  unfold evGuard gb
  cases o.guard with
  | none => simp
  | some q =>
    simp only
    cases guardSlot ops o with
    | none => simp
    | some p =>
      obtain ⟨g, b⟩ := p
      simp only
      by_cases hx : ∃ x : Bool, (get env g).v = .dat .bool .ro x
      · obtain ⟨x, hx⟩ := hx
        have hg : g < env.length := get_lt (by rw [hx]; simp)
        have hs : ∀ y : Bool, (get env g).v = .dat .bool .ro y → env.set g ⟨(get env g).now, (get env g).ver, (get env g).cver, (get env g).rev, .dat .bool .ro y⟩ = env := by
          intro y hy
          have : (⟨(get env g).now, (get env g).ver, (get env g).cver, (get env g).rev, .dat .bool .ro y⟩ : Slot) = get env g := by rw [← hy]
          rw [this, eset_self hg]
        rw [hx]
        simp only [Option.some.injEq]
        cases x with
        | true => simp only [cnd]; rw [hs true hx]; cases b <;> simp
        | false => simp only [cnd]; rw [hs false hx]; cases b <;> simp
      · constructor
        · intro h
          split at h
          · rename_i x hv; exact absurd ⟨x, hv⟩ hx
          · rename_i hv; exact ⟨false, by rw [hv], h⟩
          · exact h.elim
        · rintro ⟨y, h, hg⟩
          split at h
          · rename_i x hv; exact absurd ⟨x, hv⟩ hx
          · rename_i hv; cases h; rw [hv]; exact hg
          · cases h

theorem gb_wanted (h : Rel w env tmps Of Rf) {ops : Array Oper} {b : Bool} (hb : gb ops o env = some b) : Region.wanted o (yielded ops tmps) = b := by
  unfold gb at hb
  unfold Region.wanted
  cases hg : o.guard with
  | none => rw [hg] at hb; simpa using hb
  | some q =>
    obtain ⟨j, want⟩ := q
    rw [hg] at hb
    simp only [guardSlot, hg] at hb ⊢
    cases hd : (ops[j]?).bind (·.dst) with
    | none => rw [hd] at hb; simp at hb
    | some g =>
      rw [hd] at hb
      simp only [Option.map_some] at hb
      split at hb
      · rename_i x hv
        simp only [Option.some.injEq] at hb
        have hgl : g < env.length := get_lt (by rw [hv]; simp)
        have hs := h.slot g
        rw [hv] at hs
        obtain ⟨cs, hk, hr⟩ := hs
        have hcs : cs = [tv tmps g] := hk
        obtain ⟨-, -, hcs2⟩ := hr
        rw [hcs] at hcs2
        have htv : tv tmps g = .bool x := by simpa using hcs2
        have hgt : g < tmps.size := by rw [h.size]; exact hgl
        have : tmps[g]? = some (.bool x) := by
          have h2 : tmps[g]? = some tmps[g] := by simp [hgt]
          rw [h2]
          congr 1
          unfold tv at htv
          simpa [Array.getD_eq_getD_getElem?, hgt] using htv
        unfold yielded
        rw [hd]
        simp only [Option.bind_some, this]
        rw [← hb]
        cases x <;> cases want <;> rfl
      · rename_i hv
        simp only [Option.some.injEq] at hb
        subst hb
        have hgl : g < env.length := get_lt (by rw [hv]; simp)
        have hs := h.slot g
        rw [hv] at hs
        obtain ⟨vs, hx, hvs, -⟩ := hs
        subst hvs
        have hgt : g < tmps.size := by rw [h.size]; exact hgl
        have : tmps[g]? = some (.tuple #[]) := by
          have h2 : tmps[g]? = some tmps[g] := by simp [hgt]
          rw [h2]
          congr 1
          unfold tv at hx
          simpa [Array.getD_eq_getD_getElem?, hgt] using hx
        unfold yielded
        rw [hd]
        simp only [Option.bind_some, this]
        rfl
      · cases hb

/-- what holds of the machine all through a function's run -/
structure Fr (w0 : World) (O0 R0 : List Nat) (keep : List Nat) (t0 : Nat → Value) (w : World) (tmps : Array Value) (Of Rf : Nat → List Nat) : Prop where
  wld : Wld w0 w
  blk : ∀ b, b < w0.heap.size → b ∉ O0 → w.heap[b]? = w0.heap[b]?
  own : ∀ s b, b ∈ Of s → b ∈ O0 ∨ w0.heap.size ≤ b
  rd : ∀ s b, b ∈ Rf s → b ∈ O0 ∨ b ∈ R0 ∨ w0.heap.size ≤ b
  kp : ∀ s ∈ keep, tv tmps s = t0 s

theorem Fr.step {w0 : World} {O0 R0 keep : List Nat} {t0 : Nat → Value} (f : Fr w0 O0 R0 keep t0 w tmps Of Rf) (h : Rel w env tmps Of Rf) {w' : World} {env' : Env} {tmps' : Array Value} {Of' Rf' : Nat → List Nat} {ws : List Nat}
    (st : Stp w env tmps Of Rf w' env' tmps' Of' Rf' ws) (ht : ∃ v, tmps' = ((⟨tmps, []⟩ : Go.Act).put o.dst v).tmps) (hd : ∀ d, o.dst = some d → d < env.length ∧ d ∉ keep) : Fr w0 O0 R0 keep t0 w' tmps' Of' Rf' := by
  refine ⟨⟨st.os.trans f.wld.os, st.tape.trans f.wld.tape, st.output.trans f.wld.output, Nat.le_trans f.wld.size st.size⟩, fun b hb hn => ?_, fun s b hb => ?_, fun s b hb => ?_, fun s hs => ?_⟩
  · rw [st.blk b (Nat.lt_of_lt_of_le hb f.wld.size) fun s hs => (f.own s b hs).elim hn fun hge => absurd hge (by omega)]
    exact f.blk b hb hn
  · rcases st.own s b hb with ⟨s', h'⟩ | h'
    · exact f.own s' b h'
    · exact .inr (Nat.le_trans f.wld.size h')
  · rcases st.rd s b hb with ⟨s', h' | h'⟩ | h'
    · exact (f.own s' b h').elim .inl fun h => .inr (.inr h)
    · exact f.rd s' b h'
    · exact .inr (.inr (Nat.le_trans f.wld.size h'))
  · obtain ⟨v, rfl⟩ := ht
    cases hod : o.dst with
    | none => exact f.kp s hs
    | some d =>
      obtain ⟨h1, h2⟩ := hd d hod
      show tv (tmps.setIfInBounds d v) s = _
      rw [tmps_set _ _ _ _ (by rw [h.size]; exact h1), if_neg (fun (e : s = d) => h2 (e ▸ hs))]
      exact f.kp s hs

theorem inB_lt : ∀ {e : Env} {n : Nat}, inB e n = true → n < e.length
  | [], _, h => by simp [inB] at h
  | _ :: _, 0, _ => by simp
  | _ :: l, n + 1, h => by simp only [inB] at h; simpa using inB_lt h
theorem inB_congr : ∀ {e e' : Env} (n : Nat), e.length = e'.length → inB e n = inB e' n
  | [], [], _, _ => rfl
  | [], _ :: _, _, h => by simp at h
  | _ :: _, [], _, h => by simp at h
  | _ :: _, _ :: _, 0, _ => rfl
  | _ :: l, _ :: l', n + 1, h => by simp only [inB]; exact inB_congr n (by simpa using h)

theorem dstOk_spec {cx : Cx} (h : dstOk cx env o = true) : ∀ d, o.dst = some d → d < env.length ∧ d ∉ cx.keep := by
  intro d hd
  simp only [dstOk, hd, Bool.and_eq_true, Bool.not_eq_true', List.contains_eq_mem, decide_eq_false_iff_not] at h
  exact ⟨inB_lt h.1, h.2⟩

theorem wpAct_D {call : CallP} {a : Act} {K : Env → Prop} (h : wpAct (fun u _ => u) call a K) : wpActD id call a (fun hyp e => (∀ q, hyp = some q → q) → K e) ∨ ∃ g sg x ws k, a = .call g sg x ws k ∧ call g sg x fun r o => K (k r o) := by
  unfold wpAct at h
  split at h
  · exact h.elim
  · exact .inl fun _ => h
  · exact .inl ⟨h.1, fun _ => h.2⟩
  · exact .inl fun hq => h (hq _ rfl)
  · exact .inl ⟨h.1, fun hq => h.2 (hq _ rfl)⟩
  · exact .inr ⟨_, _, _, _, _, rfl, h⟩

theorem wpAct_D' {P : Program} {a : Act} {K : Env → Prop} (h : wpAct (fun u _ => u) (CallsT P) a K) : wpActD id (CallsT P) a (fun hyp e => (∀ q, hyp = some q → q) → K e) := by
  rcases wpAct_D h with h | ⟨g, sg, x, ws, k, rfl, h⟩
  · exact h
  · exact CallsT.mono h fun r o hk _ => hk

theorem evSeq_sound {cx : Cx} (hT : TabOk P cx.T) (hS : SigOk P cx.S) {ops : Array Oper} {Q : Exit → Go.Act → World → Prop} {K : Env → Prop} {w0 : World} {O0 R0 : List Nat} {t0 : Nat → Value}
    (hQ : ∀ w' tmps' env' Of' Rf', Rel w' env' tmps' Of' Rf' → Fr w0 O0 R0 cx.keep t0 w' tmps' Of' Rf' → env'.length = tmps'.size → K env' → Q .normal ⟨tmps', []⟩ w') :
    ∀ (os : List Oper) (k : Nat) {w : World} {env : Env} {tmps : Array Value} {Of Rf : Nat → List Nat}, ops.toList.drop k = os → Rel w env tmps Of Rf → Fr w0 O0 R0 cx.keep t0 w tmps Of Rf →
      evSeq cx (CallsT P) ops os env K → wpOps P ops Q (List.range' k os.length) ⟨tmps, []⟩ w := by
  intro os
  induction os with
  | nil =>
    intro k w env tmps Of Rf hk h f he
    exact hQ _ _ _ _ _ h f h.size.symm he
  | cons o os ih =>
    intro k w env tmps Of Rf hk h f he
    have hok : ops[k]? = some o := by
      have h1 : (ops.toList.drop k)[0]? = some o := by rw [hk]; rfl
      simpa using h1
    have hk' : ops.toList.drop (k + 1) = os := by
      have h1 := congrArg (List.drop 1) hk
      simpa [List.drop_drop] using h1
    simp only [List.length_cons, List.range'_succ, wpOps, hok]
    unfold evSeq at he
    cases hdk : dstOk cx env o with
    | false => rw [hdk] at he; exact he.elim
    | true =>
      rw [hdk] at he
      simp only [cond_true] at he
      obtain ⟨b, hb, he⟩ := evGuard_iff.1 he
      have hds := dstOk_spec hdk
      have hrun := gactB_sound (P := P) (Q := Q) hT hS h (fun d hd => (hds d hd).1) (wpAct_D' he)
      rw [gb_wanted h hb]
      cases b with
      | true =>
        simp only [if_true]
        refine .inl (Oper.wp_mono ?_ hrun)
        rintro ⟨t, df⟩ w' ⟨hdf, ⟨-, ht⟩, hyp, env', Of', Rf', st, hh, hK⟩
        have : df = [] := hdf
        subst this
        exact ih (k + 1) hk' st.rel (f.step h st ht hds) (hK hh)
      | false =>
        simp only [Bool.false_eq_true, if_false]
        obtain ⟨⟨-, ht⟩, hyp, env', Of', Rf', st, hh, hK⟩ := hrun
        have h2 := ih (k + 1) hk' st.rel (f.step h st ht hds) (hK hh)
        have : (⟨tmps, []⟩ : Go.Act).put o.dst undef = ⟨((⟨tmps, []⟩ : Go.Act).put o.dst undef).tmps, []⟩ := by cases o.dst <;> rfl
        rw [this]; exact h2

end
end Go.Vm
