/- Values moved out of their places, for the evaluator Vm. Own work; lemmas. No condition. -/
import Derived.Test.YthnkkchlgepdaaaVmH
namespace Go.Vm
open Go.RowKit
set_option linter.unusedVariables false

/-- a function turned at one place -/
def fset (f : Nat → List Nat) (s : Nat) (x : List Nat) : Nat → List Nat := fun j => if j = s then x else f j
theorem fset_same (f : Nat → List Nat) (s : Nat) (x : List Nat) : fset f s x s = x := by simp [fset]
theorem fset_ne (f : Nat → List Nat) {s j : Nat} (x : List Nat) (h : j ≠ s) : fset f s x j = f j := by simp [fset, h]

/-- links go over -/
structure Links (w : World) (env : Env) (tmps : Array Value) (w' : World) (env' : Env) (tmps' : Array Value) : Prop where
  ptr : ∀ l x, PtrOk w env tmps l x → PtrOk w' env' tmps' l x
  ref : ∀ l cut x, RefOk w env tmps l cut x → RefOk w' env' tmps' l cut x
  fnl : ∀ s t x, FnlOk env tmps s t x → FnlOk env' tmps' s t x

theorem Links.refl (w : World) (env : Env) (tmps : Array Value) : Links w env tmps w env tmps := ⟨fun _ _ h => h, fun _ _ _ h => h, fun _ _ _ h => h⟩
theorem Links.trans {w w' w'' : World} {env env' env'' : Env} {tmps tmps' tmps'' : Array Value} (h : Links w env tmps w' env' tmps') (k : Links w' env' tmps' w'' env'' tmps'') :
    Links w env tmps w'' env'' tmps'' := ⟨fun l x a => k.ptr l x (h.ptr l x a), fun l c x a => k.ref l c x (h.ref l c x a), fun s t x a => k.fnl s t x (h.fnl s t x a)⟩

/-- the objects of the slots still have their cells and types -/
def SameObj (w : World) (tmps : Array Value) (e0 env : Env) : Prop :=
  ∀ s d cs bk, obj w (get e0 s).v (tv tmps s) = some (d, cs, bk) → (get env s).v.obj?.isSome = true → ∃ d', obj w (get env s).v (tv tmps s) = some (d', cs, bk) ∧ d'.t = d.t

/-- what was moved out (O1: its own blocks, R1: those it reads), and the frame behind that -/
structure Tk (w : World) (tmps : Array Value) (env : Env) (Of Rf : Nat → List Nat) (env1 : Env) (Of1 Rf1 : Nat → List Nat) (ws : List Nat) (O1 R1 : List Nat) : Prop where
  rel : Rel w env1 tmps Of1 Rf1
  len : env1.length = env.length
  subO : ∀ s b, b ∈ Of1 s → b ∈ Of s
  subR : ∀ s b, b ∈ Rf1 s → b ∈ Rf s
  links : Links w env tmps w env1 tmps
  same : SameObj w tmps env env1
  out : ∀ s, s ∉ ws → get env1 s = get env s ∧ Of1 s = Of s ∧ Rf1 s = Rf s
  nd : O1.Nodup
  fromO : ∀ b ∈ O1, ∃ s, b ∈ Of s
  fromR : ∀ b ∈ R1, ∃ s, b ∈ Rf s
  gone : ∀ b ∈ O1, ∀ s, b ∉ Of1 s

theorem Tk.none {w : World} {tmps : Array Value} {env : Env} {Of Rf : Nat → List Nat} (h : Rel w env tmps Of Rf) {R1 : List Nat} (hR : ∀ b ∈ R1, ∃ s, b ∈ Rf s) :
    Tk w tmps env Of Rf env Of Rf [] [] R1 :=
  ⟨h, rfl, fun _ _ h => h, fun _ _ h => h, .refl _ _ _, fun s d cs bk ho _ => ⟨d, ho, rfl⟩, fun _ _ => ⟨rfl, rfl, rfl⟩, by simp, by simp, hR, by simp⟩

/-- what was moved out is read by nobody, and what it reads is owned by nobody -/
theorem Tk.clean {w : World} {tmps : Array Value} {env : Env} {Of Rf : Nat → List Nat} (h : Rel w env tmps Of Rf) {env1 : Env} {Of1 Rf1 : Nat → List Nat} {ws O1 R1 : List Nat}
    (k : Tk w tmps env Of Rf env1 Of1 Rf1 ws O1 R1) : (∀ b ∈ O1, ∀ s, b ∉ Rf1 s) ∧ (∀ b ∈ O1, b ∉ R1) ∧ (∀ b ∈ R1, ∀ s, b ∉ Of1 s) := by
  refine ⟨fun b hb s hs => ?_, fun b hb hr => ?_, fun b hb s hs => ?_⟩
  · obtain ⟨s', hs'⟩ := k.fromO b hb
    exact h.unread s' s b hs' (k.subR s b hs)
  · obtain ⟨s', hs'⟩ := k.fromO b hb
    obtain ⟨s, hs⟩ := k.fromR b hr
    exact h.unread s' s b hs' hs
  · obtain ⟨s', hs'⟩ := k.fromR b hb
    exact h.unread s s' b (k.subO s b hs) hs'

theorem Tk.trans {w : World} {tmps : Array Value} {env : Env} {Of Rf : Nat → List Nat} (h : Rel w env tmps Of Rf) {env1 env2 : Env} {Of1 Rf1 Of2 Rf2 : Nat → List Nat} {ws ws' O1 R1 O2 R2 : List Nat}
    (k : Tk w tmps env Of Rf env1 Of1 Rf1 ws O1 R1) (k' : Tk w tmps env1 Of1 Rf1 env2 Of2 Rf2 ws' O2 R2)
    (hobj : ∀ s, (get env2 s).v.obj?.isSome = true → (get env1 s).v.obj?.isSome = true) :
    Tk w tmps env Of Rf env2 Of2 Rf2 (ws ++ ws') (O1 ++ O2) (R1 ++ R2) where
  rel := k'.rel
  len := k'.len.trans k.len
  subO := fun s b hb => k.subO s b (k'.subO s b hb)
  subR := fun s b hb => k.subR s b (k'.subR s b hb)
  links := k.links.trans k'.links
  same := fun s d cs bk ho hs => by
    obtain ⟨d', h1, h2⟩ := k.same s d cs bk ho (hobj s hs)
    obtain ⟨d'', h3, h4⟩ := k'.same s d' cs bk h1 hs
    exact ⟨d'', h3, h4.trans h2⟩
  out := fun s hs => by
    simp at hs
    have a := k.out s hs.1
    have b := k'.out s hs.2
    exact ⟨b.1.trans a.1, b.2.1.trans a.2.1, b.2.2.trans a.2.2⟩
  nd := by
    rw [List.nodup_append]
    refine ⟨k.nd, k'.nd, fun b hb c hc => ?_⟩
    rintro rfl
    obtain ⟨s, hs⟩ := k'.fromO b hc
    exact k.gone b hb s hs
  fromO := fun b hb => by
    rcases List.mem_append.1 hb with hb | hb
    · exact k.fromO b hb
    · obtain ⟨s, hs⟩ := k'.fromO b hb; exact ⟨s, k.subO s b hs⟩
  fromR := fun b hb => by
    rcases List.mem_append.1 hb with hb | hb
    · exact k.fromR b hb
    · obtain ⟨s, hs⟩ := k'.fromR b hb; exact ⟨s, k.subR s b hs⟩
  gone := fun b hb s hs => by
    rcases List.mem_append.1 hb with hb | hb
    · exact k.gone b hb s (k'.subO s b hs)
    · exact k'.gone b hb s hs

theorem get_lt {env : Env} {s : Nat} (h : (get env s).v ≠ .dead) : s < env.length := by
  rcases Nat.lt_or_ge s env.length with h' | h'
  · exact h'
  · exact absurd (by simp [get, List.getD_eq_getElem?_getD, List.getElem?_eq_none h']) h

/-- a slot that turned in form: what links to it is a variable's own cells -/
theorem links_form {w : World} {env : Env} {tmps : Array Value} {s : Nat} {v : V} (hs : s < env.length)
    (hobj : ∀ d cs bk, obj w (get env s).v (tv tmps s) = some (d, cs, bk) → ∃ d', obj w v (tv tmps s) = some (d', cs, bk))
    (hfnv : ∀ t x, FnlOk env tmps s t x → True) :
    Links w env tmps w (env.set s ((get env s).form v)) tmps := by
  refine ⟨fun l x h => ?_, fun l cut x h => ?_, fun s' t x h => ?_⟩
  · by_cases hls : l.s = s
    · refine ⟨by rw [hls, get_set _ _ _ _ hs]; simp only [if_true]; have := h.1; rw [hls] at this; simp only [Slot.form]; omega, fun hf => ?_⟩
      simp only [freshP, hls, get_set _ _ _ _ hs, if_true, Slot.form] at hf
      have h1 := h.1
      rw [hls] at h1
      have hst : l.st = [] := by
        cases hst : l.st with
        | nil => rfl
        | cons p st =>
          simp [hst, Nat.ble_eq] at hf
          omega
      have hf' : freshP env l = true := by
        simp only [freshP, hls, hst]
        simp [hst, Nat.ble_eq] at hf
        simp [Nat.ble_eq, hf]
      obtain ⟨cs, b, k, hloc, hx⟩ := h.2 hf'
      refine ⟨cs, b, k, ?_, hx⟩
      unfold locOf at hloc ⊢
      rw [hls, get_set _ _ _ _ hs]
      rw [hls] at hloc
      simp only [if_true, Slot.form]
      cases ho : obj w (get env s).v (tv tmps s) with
      | none => simp [ho] at hloc
      | some p =>
        obtain ⟨d, cs', bk⟩ := p
        obtain ⟨d', ho'⟩ := hobj d cs' bk ho
        simp only [ho, hst, loc] at hloc
        simp only [ho', hst, loc]
        exact hloc
    · have hg : get (env.set s ((get env s).form v)) l.s = get env l.s := by rw [get_set _ _ _ _ hs, if_neg hls]
      refine ⟨by rw [hg]; exact h.1, fun hf => ?_⟩
      rw [freshP_congr hg] at hf
      obtain ⟨cs, b, k, hloc, hx⟩ := h.2 hf
      exact ⟨cs, b, k, by unfold locOf at hloc ⊢; rw [hg]; exact hloc, hx⟩
  · by_cases hls : l.s = s
    · refine ⟨by rw [hls, get_set _ _ _ _ hs]; simp only [if_true]; have := h.1; rw [hls] at this; simp only [Slot.form]; omega, fun hf => ?_⟩
      simp only [freshR, hls, get_set _ _ _ _ hs, if_true, Slot.form] at hf
      have h1 := h.1
      rw [hls] at h1
      simp [Nat.ble_eq] at hf
      omega
    · have hg : get (env.set s ((get env s).form v)) l.s = get env l.s := by rw [get_set _ _ _ _ hs, if_neg hls]
      refine ⟨by rw [hg]; exact h.1, fun hf => ?_⟩
      rw [freshR_congr hg] at hf
      obtain ⟨cs, b, hd, hloc, hx⟩ := h.2 hf
      exact ⟨cs, b, hd, by unfold locOf at hloc ⊢; rw [hg]; exact hloc, hx⟩
  · by_cases hss : s' = s
    · subst hss
      refine ⟨by rw [get_set _ _ _ _ hs]; simp only [if_true, Slot.form]; have := h.1; omega, fun hv => ?_⟩
      rw [get_set _ _ _ _ hs] at hv
      simp only [if_true, Slot.form] at hv
      exact h.2 hv
    · have hg : get (env.set s ((get env s).form v)) s' = get env s' := by rw [get_set _ _ _ _ hs, if_neg hss]
      unfold FnlOk
      rw [hg]; exact h

/-- THE SLICE OF A PLACE MOVED OUT. -/
theorem pull_ok {w : World} {tmps : Array Value} {env : Env} {Of Rf : Nat → List Nat} (h : Rel w env tmps Of Rf) {s off : Nat} {d : Dat} {env1 : Env} (hp : pull env s off = some (d, env1)) :
    ∃ dd cs bk hdr O1 R1 Of1 Rf1, obj w (get env s).v (tv tmps s) = some (dd, cs, bk) ∧ cs[off]? = some hdr ∧ Rep w d.t d.a d.x [hdr] O1 R1 ∧ (∃ u el b, d.t = u ∧ d.a = .own el b) ∧
      Tk w tmps env Of Rf env1 Of1 Rf1 [s] O1 R1 ∧ (∀ s', (get env1 s').v.obj?.isSome = true → (get env s').v.obj?.isSome = true) ∧
      (∀ b ∈ O1, b ∈ Of s) := by
  -- the common part: the object's cells, what is moved out, and what is left
  have key : ∀ (t : Ty) (a : An) (x : t.den) (cs : List Value) (O R : List Nat) (mkV : (t : Ty) → An → t.den → V) (bk : Option (Nat × Nat)) (pre : List Nat),
      (get env s).v = mkV t a x → Rep w t a x cs O R → obj w (mkV t a x) (tv tmps s) = some (⟨t, a, x⟩, cs, bk) → Of s = pre ++ O → Rf s = R →
      (∀ a' x', obj w (mkV t a' x') (tv tmps s) = some (⟨t, a', x'⟩, cs, bk)) → (∀ a' x', (mkV t a' x').obj? = some ⟨t, a', x'⟩) →
      (∀ a' x' O' R', Rep w t a' x' cs O' R' → ∀ (env' : Env), SlotOk w env' tmps (mkV t a' x') (tv tmps s) (pre ++ O') R') →
      ((sub t a x off 1).bind fun d => match d with
        | ⟨u, .own el b, y⟩ => (upd t a x off 1 ⟨u, .hole, y⟩).map fun p => (⟨u, .own el b, y⟩, env.set s ((get env s).form (mkV t p.1 p.2)))
        | _ => none) = some (d, env1) →
      ∃ dd cs bk hdr O1 R1 Of1 Rf1, obj w (get env s).v (tv tmps s) = some (dd, cs, bk) ∧ cs[off]? = some hdr ∧ Rep w d.t d.a d.x [hdr] O1 R1 ∧ (∃ u el b, d.t = u ∧ d.a = .own el b) ∧
        Tk w tmps env Of Rf env1 Of1 Rf1 [s] O1 R1 ∧ (∀ s', (get env1 s').v.obj?.isSome = true → (get env s').v.obj?.isSome = true) ∧ (∀ b ∈ O1, b ∈ Of s) := by
    intro t a x cs O R mkV bk pre hv hr hob hOs hRs hobj' hobjq hslot hpull
    cases hs : sub t a x off 1 with
    | none => simp [hs] at hpull
    | some d0 =>
      obtain ⟨u, da, y⟩ := d0
      cases da with
      | own el b =>
        simp only [hs, Option.bind_some] at hpull
        obtain ⟨c0, c1, c2, O0, O1, O2, R0, R1, R2, rfl, hl, hn, rfl, rfl, hd, hupd⟩ := hr.focus hs
        have hu1 : u.sz = 1 := hn.symm
        have hlen1 : c1.length = 1 := by rw [hd.len.1]; exact hu1
        obtain ⟨hdr, rfl⟩ : ∃ v, c1 = [v] := by
          cases c1 with
          | nil => simp at hlen1
          | cons v c => cases c with
            | nil => exact ⟨v, rfl⟩
            | cons => simp at hlen1
        have hone := hd.len.2 hdr (by simp)
        have hhole : Rep w u .hole y [hdr] [] [] := by
          cases u with
          | pair t u => simp [Ty.sz] at hu1; have := t.sz_pos; have := u.sz_pos; omega
          | int k | bool | str | sl e => exact ⟨rfl, rfl, hdr, rfl, hone⟩
        obtain ⟨p, hp', hrp⟩ := hupd w .hole y [hdr] [] [] (fun _ _ => rfl) hhole
        simp only at hp'
        simp only [hp', Option.map_some, Option.some.injEq, Prod.mk.injEq] at hpull
        obtain ⟨rfl, rfl⟩ := hpull
        have hlt : s < env.length := get_lt (by rw [hv]; intro e; have := hobjq a x; rw [e] at this; simp [V.obj?] at this)
        have hcs : (c0 ++ [hdr] ++ c2)[off]? = some hdr := by simp [← hl]
        have hnd := h.nodup s
        rw [hOs, ← List.append_assoc, ← List.append_assoc] at hnd
        have hmid := nodup_mid hnd
        refine ⟨_, _, _, hdr, O1, R1, fset Of s (pre ++ (O0 ++ [] ++ O2)), fset Rf s (R0 ++ [] ++ R2), by rw [hv]; exact hob, hcs, hd, ⟨_, _, _, rfl, rfl⟩, ?_, ?_, ?_⟩
        · have hlinks := links_form (w := w) (env := env) (tmps := tmps) (s := s) (v := mkV t p.1 p.2) hlt (by
            intro d cs bk ho
            rw [hv, hob] at ho
            simp only [Option.some.injEq, Prod.mk.injEq] at ho
            obtain ⟨-, rfl, rfl⟩ := ho
            exact ⟨_, hobj' p.1 p.2⟩) (fun _ _ _ => trivial)
          have hget : ∀ j, get (env.set s ((get env s).form (mkV t p.1 p.2))) j = if j = s then (get env s).form (mkV t p.1 p.2) else get env j := fun j => get_set _ _ _ _ hlt
          refine ⟨?_, by simp, ?_, ?_, hlinks, ?_, ?_, hmid.1, ?_, ?_, ?_⟩
          · refine h.step (fun j => j = s) (by simpa using h.size) (fun j hj => by rw [hget, if_neg hj]) (fun j hj => rfl) (fun j hj => fset_ne _ _ hj) (fun j hj => fset_ne _ _ hj) (fun _ _ _ _ => rfl)
              (fun l x _ hx => hlinks.ptr l x hx) (fun l c x _ hx => hlinks.ref l c x hx) (fun j t x _ hx => hlinks.fnl j t x hx) ?_ ?_ ?_ ?_ ?_
            · rintro j rfl
              rw [hget, if_pos rfl, fset_same, fset_same]
              exact hslot _ _ _ _ hrp _
            · rintro j rfl
              rw [fset_same]
              rw [List.nodup_append] at hnd ⊢
              simp only [List.append_nil]
              rw [List.nodup_append] at hnd
              obtain ⟨⟨ha, hb, hc⟩, hd', he⟩ := hnd
              rw [List.nodup_append] at ha
              refine ⟨ha.1, ?_, ?_⟩
              · rw [List.nodup_append]
                exact ⟨ha.2.1, hd', fun x hx y hy => he x (by simp [hx]) y hy⟩
              · intro x hx y hy
                rcases List.mem_append.1 hy with hy | hy
                · exact ha.2.2 x hx y hy
                · exact he x (by simp [hx]) y hy
            · rintro j j' b' rfl hne hb' hb''
              rw [fset_same] at hb'
              rw [fset_ne _ _ (Ne.symm hne)] at hb''
              exact h.apart j j' b' hne (by rw [hOs]; simp at hb' ⊢; grind) hb''
            · rintro j j' b' rfl hb' hb''
              rw [fset_same] at hb'
              have hin : b' ∈ Of j := by rw [hOs]; simp at hb' ⊢; grind
              by_cases hjj : j' = j
              · subst hjj
                rw [fset_same] at hb''
                exact h.unread j' j' b' hin (by rw [hRs]; simp at hb'' ⊢; grind)
              · rw [fset_ne _ _ hjj] at hb''
                exact h.unread j j' b' hin hb''
            · rintro j j' b' rfl hb' hb''
              rw [fset_same] at hb''
              have hin : b' ∈ Rf j' := by rw [hRs]; simp at hb'' ⊢; grind
              by_cases hjj : j = j'
              · subst hjj
                rw [fset_same] at hb'
                exact h.unread j j b' (by rw [hOs]; simp at hb' ⊢; grind) hin
              · rw [fset_ne _ _ hjj] at hb'
                exact h.unread j j' b' hb' hin
          · intro j b' hb'
            by_cases hj : j = s
            · subst hj; rw [fset_same] at hb'; rw [hOs]; simp at hb' ⊢; grind
            · rwa [fset_ne _ _ hj] at hb'
          · intro j b' hb'
            by_cases hj : j = s
            · subst hj; rw [fset_same] at hb'; rw [hRs]; simp at hb' ⊢; grind
            · rwa [fset_ne _ _ hj] at hb'
          · intro j d cs bk ho hsome
            by_cases hj : j = s
            · subst hj
              rw [hv, hob] at ho
              simp only [Option.some.injEq, Prod.mk.injEq] at ho
              obtain ⟨rfl, rfl, rfl⟩ := ho
              rw [hget, if_pos rfl]
              exact ⟨_, hobj' p.1 p.2, rfl⟩
            · rw [hget, if_neg hj]; exact ⟨d, ho, rfl⟩
          · intro j hj
            simp at hj
            exact ⟨by rw [hget, if_neg hj], fset_ne _ _ hj, fset_ne _ _ hj⟩
          · exact fun b' hb' => ⟨s, by rw [hOs]; simp [hb']⟩
          · exact fun b' hb' => ⟨s, by rw [hRs]; simp [hb']⟩
          · intro b' hb' j hj
            by_cases hjs : j = s
            · subst hjs
              rw [fset_same] at hj
              have := hmid.2.1 b' hb'
              have := hmid.2.2 b' hb'
              simp at hj; grind
            · rw [fset_ne _ _ hjs] at hj
              exact h.apart s j b' (Ne.symm hjs) (by rw [hOs]; simp [hb']) hj
        · intro s' hs'
          by_cases hj : s' = s
          · subst hj; rw [hv, hobjq]; rfl
          · rw [get_set _ _ _ _ hlt, if_neg hj] at hs'; exact hs'
        · intro b' hb'; rw [hOs]; simp [hb']
      | _ => simp [hs] at hpull
  have hs := h.slot s
  unfold pull at hp
  cases hv : (get env s).v with
  | dat t a x =>
    rw [hv] at hs hp
    obtain ⟨cs, hk, hr⟩ := hs
    have hu : ∀ (a' : An) (x' : t.den), obj w (.dat t a' x') (tv tmps s) = some (⟨t, a', x'⟩, cs, none) := fun a' x' => by
      cases hx : tv tmps s <;> (simp only [obj]; rw [← hx, hk.unpack hr])
    rw [← hv]
    exact key t a x cs (Of s) (Rf s) .dat none [] hv hr (hu a x) (by simp) rfl hu (fun _ _ => rfl)
      (fun a' x' O' R' h' _ => ⟨cs, hk, h'⟩) hp
  | box t a x =>
    rw [hv] at hs hp
    obtain ⟨b, C, el, O', hx, hb, hr, hO⟩ := hs
    simp at hx
    have hu : ∀ (a' : An) (x' : t.den), obj w (.box t a' x') (tv tmps s) = some (⟨t, a', x'⟩, C.toList, some (b, 0)) := fun a' x' => by
      simp only [obj, hx]; rw [cellsAt_all hb hr.len.1]
    rw [← hv]
    exact key t a x C.toList O' (Rf s) .box (some (b, 0)) [b] hv hr (hu a x) (by simpa using hO) rfl hu (fun _ _ => rfl)
      (fun a' x' O'' R' h' _ => ⟨b, C, el, O'', by simp [hx], hb, h', rfl⟩) hp
  | _ => rw [hv] at hp; cases hp

end Go.Vm
