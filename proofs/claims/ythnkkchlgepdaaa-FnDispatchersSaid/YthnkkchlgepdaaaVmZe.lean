/- An operation within a frame of which a part is shut, for the evaluator Vm. Own work; lemmas. No condition. -/
import Derived.Test.YthnkkchlgepdaaaVmZd
namespace Go.Vm
open Go.RowKit
set_option linter.unusedVariables false

section
variable {P : Program} {w : World} {env : Env} {tmps : Array Value} {Of Rf : Nat → List Nat} {o : Oper} {d : Nat}

theorem mapIx_len (f : Nat → Slot → Slot) : ∀ (k : Nat) (e : Env), (mapIx f k e).length = e.length
  | _, [] => rfl
  | k, sl :: l => by simp [mapIx, mapIx_len f (k + 1) l]

theorem mapIx_get? (f : Nat → Slot → Slot) : ∀ (k : Nat) (e : Env) (s : Nat), (mapIx f k e)[s]? = (e[s]?).map (f (k + s))
  | _, [], s => by simp [mapIx]
  | k, sl :: l, 0 => by simp [mapIx]
  | k, sl :: l, s + 1 => by
    simp only [mapIx, List.getElem?_cons_succ, mapIx_get? f (k + 1) l s]
    congr 2; omega

theorem get_mapIx (f : Nat → Slot → Slot) (e : Env) (s : Nat) (h : s < e.length) : get (mapIx f 0 e) s = f s (get e s) := by
  unfold get
  simp only [List.getD_eq_getElem?_getD, mapIx_get?, Nat.zero_add]
  simp [h]

theorem get_out (e : Env) (s : Nat) (h : ¬ s < e.length) : get e s = ⟨0, 0, 0, 0, .dead⟩ := by
  unfold get
  simp [List.getD_eq_getElem?_getD, List.getElem?_eq_none (Nat.le_of_not_lt h)]

theorem env_ext {e e' : Env} (hl : e.length = e'.length) (h : ∀ s, s < e.length → get e s = get e' s) : e = e' := by
  apply List.ext_getElem hl
  intro s h1 h2
  have := h s h1
  unfold get at this
  simpa [List.getD_eq_getElem?_getD, h1, h2] using this

theorem get_restr (ts : List Nat) (env : Env) (s : Nat) : get (restr ts env) s =
    if s ∈ ts then ⟨(get env s).now, (get env s).ver, (get env s).cver, (get env s).rev, keepV ts (get env s).v⟩ else ⟨0, 0, 0, 0, .dead⟩ := by
  by_cases h : s < env.length
  · unfold restr
    rw [get_mapIx _ _ _ h]
    by_cases hs : s ∈ ts
    · simp [hs]
    · simp [hs]
  · rw [get_out _ _ (by unfold restr; rw [mapIx_len]; exact h), get_out env s h]
    split
    · simp [keepV, V.links, subL]
    · rfl

theorem restr_len (ts : List Nat) (env : Env) : (restr ts env).length = env.length := mapIx_len _ _ _
theorem merge_len (ws : List Nat) (u env : Env) : (merge ws u env).length = env.length := mapIx_len _ _ _

theorem get_merge (ws : List Nat) (u env : Env) (s : Nat) (hl : u.length = env.length) : get (merge ws u env) s = if s ∈ ws then get u s else get env s := by
  by_cases h : s < env.length
  · unfold merge
    rw [get_mapIx _ _ _ h]
    by_cases hs : s ∈ ws <;> simp [hs]
  · rw [get_out _ _ (by rw [merge_len]; exact h), get_out env s h, get_out u s (by rw [hl]; exact h)]
    simp

theorem obj_keepV (ts : List Nat) (v : V) (x : Value) : obj w (keepV ts v) x = obj w v x := by
  unfold keepV
  cases h : subL v.links ts with
  | true => rfl
  | false =>
    simp only [cond_false]
    cases v <;> first | rfl | (cases x <;> rfl) | simp [V.links, subL] at h

theorem locOf_restr {ts : List Nat} {l : Lk} (hl : l.s ∈ ts) : locOf w (restr ts env) tmps l = locOf w env tmps l := by
  unfold locOf
  rw [get_restr, if_pos hl, obj_keepV]
theorem ptr_restr {ts : List Nat} {l : Lk} {x : Value} (hl : l.s ∈ ts) : PtrOk w (restr ts env) tmps l x ↔ PtrOk w env tmps l x := by
  unfold PtrOk freshP
  rw [locOf_restr hl, get_restr, if_pos hl]
theorem ref_restr {ts : List Nat} {l : Lk} {c : Option (Nat × Nat × Nat)} {x : Value} (hl : l.s ∈ ts) : RefOk w (restr ts env) tmps l c x ↔ RefOk w env tmps l c x := by
  unfold RefOk freshR
  rw [locOf_restr hl, get_restr, if_pos hl]
theorem fnl_restr {ts : List Nat} {s t : Nat} {x : Value} (hl : s ∈ ts) : FnlOk (restr ts env) tmps s t x ↔ FnlOk env tmps s t x := by
  unfold FnlOk
  rw [get_restr, if_pos hl]

theorem ptr_congr {e e' : Env} {l : Lk} {x : Value} (h : get e' l.s = get e l.s) : PtrOk w e' tmps l x ↔ PtrOk w e tmps l x := by
  unfold PtrOk freshP locOf; rw [h]
theorem ref_congr {e e' : Env} {l : Lk} {c : Option (Nat × Nat × Nat)} {x : Value} (h : get e' l.s = get e l.s) : RefOk w e' tmps l c x ↔ RefOk w e tmps l c x := by
  unfold RefOk freshR locOf; rw [h]
theorem fnl_congr {e e' : Env} {s t : Nat} {x : Value} (h : get e' s = get e s) : FnlOk e' tmps s t x ↔ FnlOk e tmps s t x := by
  unfold FnlOk; rw [h]

theorem ptr_shut {e : Env} {l : Lk} {x : Value} (h : get e l.s = ⟨0, 0, 0, 0, .dead⟩) : ¬ PtrOk w e tmps l x := by
  intro hp
  have hf : freshP e l = true := by unfold freshP; rw [h]; simp [Nat.ble_eq]
  obtain ⟨cs, b, k, hloc, -⟩ := hp.2 hf
  unfold locOf at hloc
  rw [h] at hloc
  simp [obj] at hloc
theorem ref_shut {e : Env} {l : Lk} {c : Option (Nat × Nat × Nat)} {x : Value} (h : get e l.s = ⟨0, 0, 0, 0, .dead⟩) : ¬ RefOk w e tmps l c x := by
  intro hp
  have hf : freshR e l = true := by unfold freshR; rw [h]; simp [Nat.ble_eq]
  obtain ⟨cs, b, k, hloc, -⟩ := hp.2 hf
  unfold locOf at hloc
  rw [h] at hloc
  simp [obj] at hloc

/-- a slot's knowledge, with its own links alone -/
theorem SlotOk.relink {env' : Env} {v : V} {x : Value} {O R : List Nat} (h : SlotOk w env tmps v x O R)
    (hp : ∀ l x, l.s ∈ v.links → PtrOk w env tmps l x → PtrOk w env' tmps l x) (hr : ∀ l cut x, l.s ∈ v.links → RefOk w env tmps l cut x → RefOk w env' tmps l cut x)
    (hn : ∀ s t x, s ∈ v.links → FnlOk env tmps s t x → FnlOk env' tmps s t x) : SlotOk w env' tmps v x O R := by
  cases v with
  | dat t a y => exact h
  | box t a y => exact h
  | ptr l => exact ⟨h.1, h.2.1, hp _ _ (by simp [V.links]) h.2.2⟩
  | ref l cut => exact ⟨h.1, h.2.1, hr _ _ _ (by simp [V.links]) h.2.2⟩
  | agg cs =>
    obtain ⟨vs, rfl, hl, hj⟩ := h
    refine ⟨vs, rfl, hl, fun j l e => ?_⟩
    obtain ⟨v, e', h'⟩ := hj j l e
    refine ⟨v, e', hr _ _ _ ?_ h'⟩
    simp only [V.links, List.mem_filterMap]
    exact ⟨.ref l, List.mem_of_getElem? e, rfl⟩
  | tup ds => exact h
  | nil => exact h
  | fnc f caps =>
    obtain ⟨h1, h2, vs, rfl, hl, hj⟩ := h
    refine ⟨h1, h2, vs, rfl, hl, fun j l e => ?_⟩
    obtain ⟨v, e', h'⟩ := hj j l e
    refine ⟨v, e', hp _ _ ?_ h'⟩
    simp only [V.links, List.mem_map]
    exact ⟨l, List.mem_of_getElem? e, rfl⟩
  | fnv f ds => exact h
  | fnl s t => exact ⟨h.1, h.2.1, hn s t x (by simp [V.links]) h.2.2⟩
  | rop t y off => exact h
  | dead => exact h

def kept (ts : List Nat) (env : Env) (s : Nat) : Prop := s ∈ ts ∧ subL (get env s).v.links ts = true
open Classical in
noncomputable def rF (ts : List Nat) (env : Env) (f : Nat → List Nat) (s : Nat) : List Nat := if kept ts env s then f s else []

theorem rF_mem {ts : List Nat} {f : Nat → List Nat} {s b : Nat} (h : b ∈ rF ts env f s) : kept ts env s ∧ b ∈ f s := by
  unfold rF at h
  split at h
  · exact ⟨by assumption, h⟩
  · simp at h
theorem rF_kept {ts : List Nat} {f : Nat → List Nat} {s : Nat} (h : kept ts env s) : rF ts env f s = f s := by simp [rF, h]

theorem rel_restr (h : Rel w env tmps Of Rf) (ts : List Nat) : Rel w (restr ts env) tmps (rF ts env Of) (rF ts env Rf) := by
  refine ⟨by rw [restr_len]; exact h.size, fun s => ?_, fun s => ?_, fun s s' b hss hb hb' => ?_, fun s s' b hb hb' => ?_⟩
  · rw [get_restr]
    by_cases hk : kept ts env s
    · rw [if_pos hk.1, rF_kept hk, rF_kept hk]
      simp only [keepV, hk.2, cond_true]
      have hsub : ∀ x ∈ (get env s).v.links, x ∈ ts := by
        have := hk.2
        simpa [subL] using this
      exact (h.slot s).relink (fun l x hl hp => (ptr_restr (hsub _ hl)).2 hp) (fun l c x hl hp => (ref_restr (hsub _ hl)).2 hp) (fun s t x hl hp => (fnl_restr (hsub _ hl)).2 hp)
    · have e1 : rF ts env Of s = [] := by simp [rF, hk]
      have e2 : rF ts env Rf s = [] := by simp [rF, hk]
      rw [e1, e2]
      split
      · rename_i hs
        have : subL (get env s).v.links ts = false := by
          cases hx : subL (get env s).v.links ts with
          | false => rfl
          | true => exact absurd ⟨hs, hx⟩ hk
        simp only [keepV, this, cond_false]
        exact ⟨rfl, rfl⟩
      · exact ⟨rfl, rfl⟩
  · by_cases hk : kept ts env s
    · rw [rF_kept hk]; exact h.nodup s
    · have e1 : rF ts env Of s = [] := by simp [rF, hk]
      rw [e1]; exact List.nodup_nil
  · exact h.apart s s' b hss (rF_mem hb).2 (rF_mem hb').2
  · exact h.unread s s' b (rF_mem hb).2 (rF_mem hb').2

/-- A STEP WITHIN A PART OF THE FRAME is a step of the frame. -/
theorem Stp.lift {ts : List Nat} (h : Rel w env tmps Of Rf) {w' : World} {u : Env} {tmps' : Array Value} {Of1 Rf1 : Nat → List Nat} {ws : List Nat}
    (st : Stp w (restr ts env) tmps (rF ts env Of) (rF ts env Rf) w' u tmps' Of1 Rf1 ws) (hws : ∀ s ∈ ws, s ∈ ts) :
    Stp w env tmps Of Rf w' (merge ws u env) tmps' (fun s => if s ∈ ws then Of1 s else Of s) (fun s => if s ∈ ws then Rf1 s else Rf s) ws := by
  have hul : u.length = env.length := by rw [st.len, restr_len]
  have hm : ∀ s, get (merge ws u env) s = if s ∈ ws then get u s else get env s := fun s => get_merge ws u env s hul
  have hout : ∀ s, s ∉ ws → get u s = get (restr ts env) s ∧ tv tmps' s = tv tmps s ∧ Of1 s = rF ts env Of s ∧ Rf1 s = rF ts env Rf s := st.out
  generalize hO2 : (fun s => if s ∈ ws then Of1 s else Of s) = Of2
  generalize hR2 : (fun s => if s ∈ ws then Rf1 s else Rf s) = Rf2
  have o1 : ∀ s, s ∈ ws → Of2 s = Of1 s := fun s hs => by rw [← hO2]; simp [hs]
  have o2 : ∀ s, s ∉ ws → Of2 s = Of s := fun s hs => by rw [← hO2]; simp [hs]
  have r1 : ∀ s, s ∈ ws → Rf2 s = Rf1 s := fun s hs => by rw [← hR2]; simp [hs]
  have r2 : ∀ s, s ∉ ws → Rf2 s = Rf s := fun s hs => by rw [← hR2]; simp [hs]
  clear hO2 hR2
  let S : Nat → Prop := fun s => kept ts env s ∨ s ∈ ws
  have sO : ∀ s, S s → Of2 s = Of1 s := by
    intro s hs
    by_cases e : s ∈ ws
    · exact o1 s e
    · have hk := hs.resolve_right e
      rw [o2 s e, (hout s e).2.2.1, rF_kept hk]
  have sR : ∀ s, S s → Rf2 s = Rf1 s := by
    intro s hs
    by_cases e : s ∈ ws
    · exact r1 s e
    · have hk := hs.resolve_right e
      rw [r2 s e, (hout s e).2.2.2, rF_kept hk]
  have nS : ∀ s, ¬ S s → s ∉ ws ∧ ¬ kept ts env s := fun s hs => ⟨fun e => hs (.inr e), fun e => hs (.inl e)⟩
  have sG : ∀ s, S s → get (merge ws u env) s = get u s := by
    intro s hs
    rw [hm]
    split
    · rfl
    · rename_i e
      have hk := hs.resolve_right e
      rw [(hout s e).1, get_restr, if_pos hk.1]
      simp only [keepV, hk.2, cond_true]
  have hw : ∀ s, ¬ S s → ∀ b, b ∈ Of s ∨ b ∈ Rf s → w'.heap[b]? = w.heap[b]? := by
    intro s hs b hb
    refine st.blk b (h.lt hb) fun s' hb' => ?_
    obtain ⟨hk, hb'⟩ := rF_mem hb'
    rcases hb with hb | hb
    · exact h.apart s s' b (fun e => (nS s hs).2 (e ▸ hk)) hb hb'
    · exact h.unread s' s b hb' hb
  have ownA : ∀ s b, S s → b ∈ Of1 s → (∃ s2, kept ts env s2 ∧ b ∈ Of s2) ∨ w.heap.size ≤ b := by
    intro s b hs hb
    rcases st.own s b hb with ⟨s2, h2⟩ | h2
    · exact .inl ⟨s2, rF_mem h2⟩
    · exact .inr h2
  have toP : ∀ l x, S l.s → PtrOk w env tmps l x → PtrOk w' (merge ws u env) tmps' l x := by
    intro l x hs hp
    have hts : l.s ∈ ts := hs.elim (fun k => k.1) (hws _)
    exact (ptr_congr (sG _ hs)).2 (st.links.ptr l x ((ptr_restr hts).2 hp))
  have toR : ∀ l c x, S l.s → RefOk w env tmps l c x → RefOk w' (merge ws u env) tmps' l c x := by
    intro l c x hs hp
    have hts : l.s ∈ ts := hs.elim (fun k => k.1) (hws _)
    exact (ref_congr (sG _ hs)).2 (st.links.ref l c x ((ref_restr hts).2 hp))
  have toN : ∀ s t x, S s → FnlOk env tmps s t x → FnlOk (merge ws u env) tmps' s t x := by
    intro s t x hs hp
    have hts : s ∈ ts := hs.elim (fun k => k.1) (hws _)
    exact (fnl_congr (sG _ hs)).2 (st.links.fnl s t x ((fnl_restr hts).2 hp))
  have bP : ∀ l x, PtrOk w' u tmps' l x → PtrOk w' (merge ws u env) tmps' l x := by
    intro l x hp
    by_cases e : l.s ∈ ws
    · exact (ptr_congr (by rw [hm, if_pos e])).2 hp
    · have hp' := (ptr_congr (e := restr ts env) (hout _ e).1).1 hp
      by_cases e2 : l.s ∈ ts
      · exact (ptr_congr (by rw [hm, if_neg e])).2 ((ptr_restr e2).1 hp')
      · exact absurd hp' (ptr_shut (by rw [get_restr, if_neg e2]))
  have bR : ∀ l c x, RefOk w' u tmps' l c x → RefOk w' (merge ws u env) tmps' l c x := by
    intro l c x hp
    by_cases e : l.s ∈ ws
    · exact (ref_congr (by rw [hm, if_pos e])).2 hp
    · have hp' := (ref_congr (e := restr ts env) (hout _ e).1).1 hp
      by_cases e2 : l.s ∈ ts
      · exact (ref_congr (by rw [hm, if_neg e])).2 ((ref_restr e2).1 hp')
      · exact absurd hp' (ref_shut (by rw [get_restr, if_neg e2]))
  have bN : ∀ s t x, FnlOk u tmps' s t x → FnlOk (merge ws u env) tmps' s t x := by
    intro s t x hp
    by_cases e : s ∈ ws
    · exact (fnl_congr (by rw [hm, if_pos e])).2 hp
    · have hp' := (fnl_congr (e := restr ts env) (hout _ e).1).1 hp
      by_cases e2 : s ∈ ts
      · exact (fnl_congr (by rw [hm, if_neg e])).2 ((fnl_restr e2).1 hp')
      · have h0 : get (restr ts env) s = ⟨0, 0, 0, 0, .dead⟩ := by rw [get_restr, if_neg e2]
        unfold FnlOk at hp' ⊢
        rw [h0] at hp'
        simp only [Nat.le_zero_eq] at hp'
        obtain ⟨rfl, hx⟩ := hp'
        exact ⟨Nat.zero_le _, fun _ => hx (Nat.le_refl _)⟩
  have hrel : Rel w' (merge ws u env) tmps' Of2 Rf2 := by
    refine h.step S (by rw [st.rel.size, merge_len, hul]) (fun s hs => by rw [hm, if_neg (nS s hs).1]) (fun s hs => (hout s (nS s hs).1).2.1) (fun s hs => o2 s (nS s hs).1) (fun s hs => r2 s (nS s hs).1)
      hw toP toR toN ?_ ?_ ?_ ?_ ?_
    · intro s hs
      rw [sG s hs, sO s hs, sR s hs]
      exact (st.rel.slot s).imp (fun _ _ => rfl) (fun _ _ => rfl) bP bR bN
    · intro s hs; rw [sO s hs]; exact st.rel.nodup s
    · intro s s' b hs hne hb hb'
      rw [sO s hs] at hb
      by_cases hs' : S s'
      · rw [sO s' hs'] at hb'; exact st.rel.apart s s' b hne hb hb'
      · rw [o2 s' (nS s' hs').1] at hb'
        rcases ownA s b hs hb with ⟨s2, hk, h2⟩ | h2
        · exact h.apart s2 s' b (fun e => (nS s' hs').2 (e ▸ hk)) h2 hb'
        · exact absurd (h.lt (.inl hb')) (by omega)
    · intro s s' b hs hb hb'
      rw [sO s hs] at hb
      by_cases hs' : S s'
      · rw [sR s' hs'] at hb'; exact st.rel.unread s s' b hb hb'
      · rw [r2 s' (nS s' hs').1] at hb'
        rcases ownA s b hs hb with ⟨s2, hk, h2⟩ | h2
        · exact h.unread s2 s' b h2 hb'
        · exact absurd (h.lt (.inr hb')) (by omega)
    · intro s s' b hs' hb hb'
      rw [sR s' hs'] at hb'
      by_cases hs : S s
      · rw [sO s hs] at hb; exact st.rel.unread s s' b hb hb'
      · rw [o2 s (nS s hs).1] at hb
        rcases st.rd s' b hb' with ⟨s2, h2 | h2⟩ | h2
        · obtain ⟨hk, h2⟩ := rF_mem h2
          exact h.apart s s2 b (fun e => (nS s hs).2 (e ▸ hk)) hb h2
        · exact h.unread s s2 b hb (rF_mem h2).2
        · exact absurd (h.lt (.inl hb)) (by omega)
  refine ⟨hrel, st.os, st.tape, st.output, st.size, fun b hb hno => st.blk b hb fun s hs => hno s (rF_mem hs).2, ?_, ?_, ?_, ?_, by rw [merge_len]⟩
  · intro s b hb
    by_cases hs : S s
    · rw [sO s hs] at hb
      rcases ownA s b hs hb with ⟨s2, -, h2⟩ | h2
      · exact .inl ⟨s2, h2⟩
      · exact .inr h2
    · rw [o2 s (nS s hs).1] at hb; exact .inl ⟨s, hb⟩
  · intro s b hb
    by_cases hs : S s
    · rw [sR s hs] at hb
      rcases st.rd s b hb with ⟨s2, h2 | h2⟩ | h2
      · exact .inl ⟨s2, .inl (rF_mem h2).2⟩
      · exact .inl ⟨s2, .inr (rF_mem h2).2⟩
      · exact .inr h2
    · rw [r2 s (nS s hs).1] at hb; exact .inl ⟨s, .inr hb⟩
  · refine ⟨fun l x hl => ?_, fun l c x hl => ?_, fun s t x hl => ?_⟩
    · by_cases hs : S l.s
      · exact toP l x hs hl
      · have he : get (merge ws u env) l.s = get env l.s := by rw [hm, if_neg (nS _ hs).1]
        refine ⟨by rw [he]; exact hl.1, fun hf => ?_⟩
        rw [freshP_congr he] at hf
        obtain ⟨cs, b, k, hloc, hx⟩ := hl.2 hf
        exact ⟨cs, b, k, by rw [locOf_frame h he (hout _ (nS _ hs).1).2.1 (fun b hb => hw _ hs b (.inl hb))]; exact hloc, hx⟩
    · by_cases hs : S l.s
      · exact toR l c x hs hl
      · have he : get (merge ws u env) l.s = get env l.s := by rw [hm, if_neg (nS _ hs).1]
        refine ⟨by rw [he]; exact hl.1, fun hf => ?_⟩
        rw [freshR_congr he] at hf
        obtain ⟨cs, bk, hd, hloc, hx⟩ := hl.2 hf
        exact ⟨cs, bk, hd, by rw [locOf_frame h he (hout _ (nS _ hs).1).2.1 (fun b hb => hw _ hs b (.inl hb))]; exact hloc, hx⟩
    · by_cases hs : S s
      · exact toN s t x hs hl
      · have he : get (merge ws u env) s = get env s := by rw [hm, if_neg (nS _ hs).1]
        unfold FnlOk at hl ⊢
        rw [he, (hout _ (nS _ hs).1).2.1]; exact hl
  · intro s hs
    exact ⟨by rw [hm, if_neg hs], (hout s hs).2.1, o2 s hs, r2 s hs⟩

end
end Go.Vm
