/- One step of a frame, for the evaluator Vm. Own work; lemmas. No condition. -/
import Derived.Test.YthnkkchlgepdaaaVmJ
namespace Go.Vm
open Go.RowKit
set_option linter.unusedVariables false

/-- ONE STEP: the frame behind it, what of the world it turned, what it owns and reads, what links still hold, what it left alone. -/
structure Stp (w : World) (env : Env) (tmps : Array Value) (Of Rf : Nat → List Nat) (w' : World) (env' : Env) (tmps' : Array Value) (Of' Rf' : Nat → List Nat) (ws : List Nat) : Prop where
  rel : Rel w' env' tmps' Of' Rf'
  os : w'.os = w.os
  tape : w'.tape = w.tape
  output : w'.output = w.output
  size : w.heap.size ≤ w'.heap.size
  blk : ∀ b, b < w.heap.size → (∀ s, b ∉ Of s) → w'.heap[b]? = w.heap[b]?
  own : ∀ s b, b ∈ Of' s → (∃ s', b ∈ Of s') ∨ w.heap.size ≤ b
  rd : ∀ s b, b ∈ Rf' s → (∃ s', b ∈ Of s' ∨ b ∈ Rf s') ∨ w.heap.size ≤ b
  links : Links w env tmps w' env' tmps'
  out : ∀ s, s ∉ ws → get env' s = get env s ∧ tv tmps' s = tv tmps s ∧ Of' s = Of s ∧ Rf' s = Rf s
  len : env'.length = env.length

theorem Rel.lt {w : World} {env : Env} {tmps : Array Value} {Of Rf : Nat → List Nat} (h : Rel w env tmps Of Rf) {s b : Nat} (hb : b ∈ Of s ∨ b ∈ Rf s) : b < w.heap.size := by
  have hs := h.slot s
  cases hv : (get env s).v with
  | dat t a y => rw [hv] at hs; obtain ⟨cs, -, hr⟩ := hs; exact hr.lt b hb
  | box t a y =>
    rw [hv] at hs
    obtain ⟨g, C, el, O', hx, hg, hr, hO⟩ := hs
    rw [hO] at hb
    simp at hb
    rcases hb with (rfl | hb) | hb
    · exact heap_lt hg
    · exact hr.lt b (.inl hb)
    · exact hr.lt b (.inr hb)
  | tup ds =>
    rw [hv] at hs; obtain ⟨vs, -, hl⟩ := hs
    obtain ⟨d, _, c, O1, R1, ⟨x, cs, -, -, hr⟩, hb'⟩ := hl.mem (b := b) hb
    exact hr.lt b hb'
  | agg cs =>
    rw [hv] at hs; obtain ⟨vs, -, hl, -⟩ := hs
    obtain ⟨d, _, c, O1, R1, hc, hb'⟩ := hl.mem (b := b) hb
    cases d with
    | d t y => obtain ⟨-, rfl, hr⟩ := hc; exact hr.lt b hb'
    | ref l => obtain ⟨rfl, rfl, -⟩ := hc; simp at hb'
    | bad => obtain ⟨rfl, rfl, -⟩ := hc; simp at hb'
  | fnv f ds =>
    rw [hv] at hs; obtain ⟨vs, -, hl⟩ := hs
    obtain ⟨d, _, c, O1, R1, ⟨g, C, el, O', -, hg, hr, rfl⟩, hb'⟩ := hl.mem (b := b) hb
    simp at hb'
    rcases hb' with (rfl | hb') | hb'
    · exact heap_lt hg
    · exact hr.lt b (.inl hb')
    · exact hr.lt b (.inr hb')
  | rop t y off =>
    rw [hv] at hs
    obtain ⟨hO, g, k, cells, R', -, hr, hu, hR⟩ := hs
    rw [hO, hR] at hb
    simp at hb
    rcases hb with rfl | hb
    · have hl := hr.len.1
      have := t.sz_pos
      exact cell_lt (hu 0 cells[0] (by simp))
    · exact hr.lt b (.inr hb)
  | ptr l => rw [hv] at hs; obtain ⟨h1, h2, -⟩ := hs; simp [h1, h2] at hb
  | ref l c => rw [hv] at hs; obtain ⟨h1, h2, -⟩ := hs; simp [h1, h2] at hb
  | nil => rw [hv] at hs; obtain ⟨h1, h2, -⟩ := hs; simp [h1, h2] at hb
  | fnc f c => rw [hv] at hs; obtain ⟨h1, h2, -⟩ := hs; simp [h1, h2] at hb
  | fnl s t => rw [hv] at hs; obtain ⟨h1, h2, -⟩ := hs; simp [h1, h2] at hb
  | dead => rw [hv] at hs; obtain ⟨h1, h2⟩ := hs; simp [h1, h2] at hb

/-- a slot overwritten: no link to it holds any more -/
theorem links_fresh {w w' : World} {env : Env} {tmps : Array Value} {Of Rf : Nat → List Nat} (h : Rel w env tmps Of Rf) {d : Nat} (hd : d < env.length) (v : V) (x : Value)
    (hw : ∀ s, s ≠ d → ∀ b ∈ Of s, w'.heap[b]? = w.heap[b]?) : Links w env tmps w' (env.set d ((get env d).fresh v)) (tmps.setIfInBounds d x) := by
  have hdt : d < tmps.size := by rw [h.size]; exact hd
  have hg : ∀ s, s ≠ d → get (env.set d ((get env d).fresh v)) s = get env s := fun s hs => by rw [get_set _ _ _ _ hd, if_neg hs]
  have ht : ∀ s, s ≠ d → tv (tmps.setIfInBounds d x) s = tv tmps s := fun s hs => by rw [tmps_set _ _ _ _ hdt, if_neg hs]
  have hg' : get (env.set d ((get env d).fresh v)) d = (get env d).fresh v := by rw [get_set _ _ _ _ hd, if_pos rfl]
  refine ⟨fun l y hl => ?_, fun l c y hl => ?_, fun s t y hl => ?_⟩
  · by_cases e : l.s = d
    · have h1 := hl.1
      refine ⟨by rw [e] at h1 ⊢; rw [hg']; simp only [Slot.fresh]; omega, fun hf => ?_⟩
      rw [e] at h1
      unfold freshP at hf
      rw [e, hg'] at hf
      simp [Slot.fresh, Nat.ble_eq] at hf
      omega
    · refine ⟨by rw [hg _ e]; exact hl.1, fun hf => ?_⟩
      rw [freshP_congr (hg _ e)] at hf
      obtain ⟨cs, b, k, hloc, hx⟩ := hl.2 hf
      exact ⟨cs, b, k, by rw [locOf_frame h (hg _ e) (ht _ e) (hw _ e)]; exact hloc, hx⟩
  · by_cases e : l.s = d
    · have h1 := hl.1
      refine ⟨by rw [e] at h1 ⊢; rw [hg']; simp only [Slot.fresh]; omega, fun hf => ?_⟩
      rw [e] at h1
      unfold freshR at hf
      rw [e, hg'] at hf
      simp [Slot.fresh, Nat.ble_eq] at hf
      omega
    · refine ⟨by rw [hg _ e]; exact hl.1, fun hf => ?_⟩
      rw [freshR_congr (hg _ e)] at hf
      obtain ⟨cs, b, k, hloc, hx⟩ := hl.2 hf
      exact ⟨cs, b, k, by rw [locOf_frame h (hg _ e) (ht _ e) (hw _ e)]; exact hloc, hx⟩
  · by_cases e : s = d
    · subst e
      have h1 := hl.1
      refine ⟨by rw [hg']; simp only [Slot.fresh]; omega, fun hf => ?_⟩
      rw [hg'] at hf
      simp only [Slot.fresh] at hf
      omega
    · unfold FnlOk
      rw [hg _ e, ht _ e]
      exact hl

/-- the plain world of a step -/
structure Wld (w w' : World) : Prop where
  os : w'.os = w.os
  tape : w'.tape = w.tape
  output : w'.output = w.output
  size : w.heap.size ≤ w'.heap.size
theorem Wld.refl (w : World) : Wld w w := ⟨rfl, rfl, rfl, Nat.le_refl _⟩

/-- A SLOT GETS A VALUE, out of what was moved out of others. -/
theorem put_ok {w w' : World} {tmps : Array Value} {env : Env} {Of Rf : Nat → List Nat} (h : Rel w env tmps Of Rf) {env1 : Env} {Of1 Rf1 : Nat → List Nat} {ws O1 R1 : List Nat}
    (k : Tk w tmps env Of Rf env1 Of1 Rf1 ws O1 R1) {d : Nat} (hd : d < env.length) (v : V) (x : Value) {O2 R2 : List Nat} (hW : Wld w w')
    (hb : ∀ b, b < w.heap.size → (∀ s, b ∉ Of s) → w'.heap[b]? = w.heap[b]?)
    (hc : ∀ s, s ≠ d → ∀ b, b ∈ Of1 s ∨ b ∈ Rf1 s → w'.heap[b]? = w.heap[b]?)
    (hv : ∀ env' tmps', Links w env tmps w' env' tmps' → SlotOk w' env' tmps' v x O2 R2)
    (hnd : O2.Nodup) (h1 : ∀ b ∈ O2, b ∈ O1 ∨ w.heap.size ≤ b) (h2 : ∀ b ∈ O2, b ∉ R2) (h3 : ∀ b ∈ R2, b ∈ R1 ∨ b ∈ O1 ∨ w.heap.size ≤ b) :
    Stp w env tmps Of Rf w' (env1.set d ((get env1 d).fresh v)) (tmps.setIfInBounds d x) (fset Of1 d O2) (fset Rf1 d R2) (ws ++ [d]) := by
  have hd1 : d < env1.length := by rw [k.len]; exact hd
  have hdt : d < tmps.size := by rw [h.size]; exact hd
  have hlk := links_fresh k.rel hd1 v x (w' := w') (fun s hs b hb' => hc s hs b (.inl hb'))
  have hlinks := k.links.trans hlk
  have hcl := Tk.clean h k
  have hg : ∀ s, get (env1.set d ((get env1 d).fresh v)) s = if s = d then (get env1 d).fresh v else get env1 s := fun s => get_set _ _ _ _ hd1
  have ht : ∀ s, tv (tmps.setIfInBounds d x) s = if s = d then x else tv tmps s := fun s => tmps_set _ _ _ _ hdt
  have old : ∀ b, b ∈ O1 → b < w.heap.size := fun b hb' => let ⟨s, hs⟩ := k.fromO b hb'; h.lt (.inl hs)
  refine ⟨?_, hW.os, hW.tape, hW.output, hW.size, hb, ?_, ?_, hlinks, ?_, by simp [k.len]⟩
  · refine k.rel.step (fun s => s = d) (by simp [k.rel.size]) (fun s hs => by rw [hg, if_neg hs]) (fun s hs => by rw [ht, if_neg hs]) (fun s hs => fset_ne _ _ hs) (fun s hs => fset_ne _ _ hs)
      (fun s hs b hb' => hc s hs b hb') (fun l y _ hl => hlk.ptr l y hl) (fun l c y _ hl => hlk.ref l c y hl) (fun s t y _ hl => hlk.fnl s t y hl) ?_ ?_ ?_ ?_ ?_
    · rintro s rfl
      rw [hg, if_pos rfl, ht, if_pos rfl, fset_same, fset_same]
      exact hv _ _ hlinks
    · rintro s rfl; rw [fset_same]; exact hnd
    · rintro s s' b rfl hne hb1 hb2
      rw [fset_same] at hb1
      rw [fset_ne _ _ (Ne.symm hne)] at hb2
      rcases h1 b hb1 with h5 | h5
      · exact k.gone b h5 s' hb2
      · exact absurd (k.rel.lt (.inl hb2)) (by omega)
    · rintro s s' b rfl hb1 hb2
      rw [fset_same] at hb1
      by_cases e : s' = s
      · subst e; rw [fset_same] at hb2; exact h2 b hb1 hb2
      · rw [fset_ne _ _ e] at hb2
        rcases h1 b hb1 with h5 | h5
        · exact hcl.1 b h5 s' hb2
        · exact absurd (k.rel.lt (.inr hb2)) (by omega)
    · rintro s s' b rfl hb1 hb2
      rw [fset_same] at hb2
      by_cases e : s = s'
      · subst e; rw [fset_same] at hb1; exact h2 b hb1 hb2
      · rw [fset_ne _ _ e] at hb1
        rcases h3 b hb2 with h5 | h5 | h5
        · exact hcl.2.2 b h5 s hb1
        · exact k.gone b h5 s hb1
        · exact absurd (k.rel.lt (.inl hb1)) (by omega)
  · intro s b hb'
    by_cases e : s = d
    · subst e; rw [fset_same] at hb'
      rcases h1 b hb' with h5 | h5
      · exact .inl (k.fromO b h5)
      · exact .inr h5
    · rw [fset_ne _ _ e] at hb'; exact .inl ⟨s, k.subO s b hb'⟩
  · intro s b hb'
    by_cases e : s = d
    · subst e; rw [fset_same] at hb'
      rcases h3 b hb' with h5 | h5 | h5
      · obtain ⟨s', hs'⟩ := k.fromR b h5; exact .inl ⟨s', .inr hs'⟩
      · obtain ⟨s', hs'⟩ := k.fromO b h5; exact .inl ⟨s', .inl hs'⟩
      · exact .inr h5
    · rw [fset_ne _ _ e] at hb'; exact .inl ⟨s, .inr (k.subR s b hb')⟩
  · intro s hs
    simp at hs
    have := k.out s hs.1
    refine ⟨by rw [hg, if_neg hs.2]; exact this.1, by rw [ht, if_neg hs.2], by rw [fset_ne _ _ hs.2]; exact this.2.1, by rw [fset_ne _ _ hs.2]; exact this.2.2⟩

/-- what an operation without a call comes to -/
def OpOk (P : Program) (w : World) (env : Env) (tmps : Array Value) (Of Rf : Nat → List Nat) (o : Oper) (a : Act) : Prop :=
  ∀ pre hyp env' ws, a = .ok pre hyp env' ws → (∀ p, pre = some p → p) →
    (∀ q, hyp = some q → q) ∧ ∃ n w' tmps' Of' Rf', (execOp (Go.Act.eval ⟨tmps, []⟩) o).run P w = .ok n w' ∧
      (match o.dst with
        | some d => ∃ v, n = .value v ∧ tmps' = tmps.setIfInBounds d v
        | none => n = .skip ∧ tmps' = tmps) ∧ Stp w env tmps Of Rf w' env' tmps' Of' Rf' ws

/-- The common case: a value, the world as it was, nothing moved. -/
theorem OpOk.put0 {P : Program} {w : World} {env : Env} {tmps : Array Value} {Of Rf : Nat → List Nat} (h : Rel w env tmps Of Rf) {o : Oper} {d : Nat} (hod : o.dst = some d) (hd : d < env.length)
    {pre hyp : Option Prop} {v : V} (H : (∀ p, pre = some p → p) → (∀ q, hyp = some q → q) ∧ ∃ x R', (execOp (Go.Act.eval ⟨tmps, []⟩) o).run P w = .ok (.value x) w ∧
      SlotOk w env tmps v x [] R' ∧ (∀ b ∈ R', ∃ s, b ∈ Rf s)) : OpOk P w env tmps Of Rf o (put env d pre hyp [] v) := by
  intro pre' hyp' env' ws he hp
  simp only [put, Act.ok.injEq] at he
  obtain ⟨rfl, rfl, rfl, rfl⟩ := he
  obtain ⟨hh, x, R', hrun, hs, hR⟩ := H hp
  refine ⟨hh, _, w, tmps.setIfInBounds d x, fset Of d [], fset Rf d R', hrun, by rw [hod]; exact ⟨x, rfl, rfl⟩, ?_⟩
  exact put_ok h (Tk.none h (R1 := R') hR) hd v x (O2 := []) (R2 := R') (Wld.refl w) (fun _ _ _ => rfl) (fun _ _ _ _ => rfl)
    (fun env' tmps' hl => hs.imp (by simp) (fun _ _ => rfl) hl.ptr hl.ref hl.fnl) (by simp) (by simp) (by simp) (fun b hb => .inl hb)

theorem OpOk.mv {P : Program} {w : World} {env : Env} {tmps : Array Value} {Of Rf : Nat → List Nat} (h : Rel w env tmps Of Rf) {o : Oper} {d : Nat} (hod : o.dst = some d) (hd : d < env.length)
    {v : V} {x : Value} {R' : List Nat} (hrun : (execOp (Go.Act.eval ⟨tmps, []⟩) o).run P w = .ok (.value x) w) (hs : SlotOk w env tmps v x [] R') (hR : ∀ b ∈ R', ∃ s, b ∈ Rf s) :
    OpOk P w env tmps Of Rf o (mv env d v) := by
  cases v with
  | dead => intro _ _ _ _ he; simp [Vm.mv] at he
  | _ => exact OpOk.put0 h hod hd (fun _ => ⟨by simp, x, R', hrun, hs, hR⟩)

theorem OpOk.bad {P : Program} {w : World} {env : Env} {tmps : Array Value} {Of Rf : Nat → List Nat} {o : Oper} : OpOk P w env tmps Of Rf o .bad := by
  intro _ _ _ _ he; cases he

end Go.Vm
