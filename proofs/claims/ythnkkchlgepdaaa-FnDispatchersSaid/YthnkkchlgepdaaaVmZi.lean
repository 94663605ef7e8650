/- A frame told anew at a cut; results handed back; for the evaluator Vm. Own work; lemmas. No condition. -/
import Derived.Test.YthnkkchlgepdaaaVmZh
namespace Go.Vm
open Go.RowKit
set_option linter.unusedVariables false

section
variable {P : Program} {w : World} {env : Env} {tmps : Array Value} {Of Rf : Nat → List Nat} {o : Oper} {d : Nat}

theorem get_norm (live : Live) (env : Env) (s : Nat) : get (norm live env) s = match List.lookup s live with
    | some want => ⟨0, 0, 0, 0, normV live env want (get env s).v⟩
    | none => ⟨0, 0, 0, 0, .dead⟩ := by
  by_cases h : s < env.length
  · unfold norm; rw [get_mapIx _ _ _ h]; cases List.lookup s live <;> rfl
  · rw [get_out _ _ (by unfold norm; rw [mapIx_len]; exact h), get_out env s h]
    split
    · rename_i want _; cases want <;> rfl
    · rfl
theorem norm_len (live : Live) (env : Env) : (norm live env).length = env.length := mapIx_len _ _ _

theorem norm_clock (live : Live) (env : Env) (s : Nat) : (get (norm live env) s).now = 0 ∧ (get (norm live env) s).ver = 0 ∧ (get (norm live env) s).cver = 0 ∧ (get (norm live env) s).rev = 0 := by
  rw [get_norm]; split <;> exact ⟨rfl, rfl, rfl, rfl⟩

theorem norm_loc {live : Live} {l : Lk} {cs : List Value} {bk : Option (Nat × Nat)} (hl : liveOk live env l = true) (h : locOf w env tmps l = some (cs, bk)) (t : Nat) : locOf w (norm live env) tmps ⟨l.s, t, l.st, l.off⟩ = some (cs, bk) := by
  unfold locOf at h ⊢
  simp only
  rw [get_norm]
  unfold liveOk at hl
  cases hk : List.lookup l.s live with
  | none => rw [hk] at hl; cases hl
  | some want =>
    rw [hk] at hl
    simp only at hl ⊢
    cases want with
    | none =>
      cases hv : (get env l.s).v with
      | dat t a x => rw [hv] at h; exact h
      | box t a x => rw [hv] at h; exact h
      | _ => rw [hv] at h; simp [obj] at h
    | some p =>
      obtain ⟨t', b⟩ := p
      simp only [Bool.and_eq_true] at hl
      have hst : l.st = [] := by simpa using hl.1
      cases hv : (get env l.s).v with
      | dat t a x =>
        rw [hv] at h hl
        simp only [normV, hl.2, cond_true]
        cases hx : tv tmps l.s <;> (rw [hx] at h; simp only [obj, hst, loc] at h ⊢; exact h)
      | box t a x =>
        rw [hv] at h hl
        simp only [normV, hl.2, cond_true]
        cases hx : tv tmps l.s <;> (rw [hx] at h; simp only [obj] at h ⊢; try cases h)
        rename_i p
        cases p with
        | none => simp only [obj] at h; cases h
        | some p => simp only [obj, hst, loc] at h ⊢; exact h
      | _ => rw [hv] at h; simp [obj] at h

theorem norm_ptr {live : Live} {l : Lk} {x : Value} (h : PtrOk w env tmps l x) (hf : freshP env l = true) (hl : liveOk live env l = true) : PtrOk w (norm live env) tmps ⟨l.s, 0, l.st, l.off⟩ x := by
  obtain ⟨cs, b, k, hloc, hx⟩ := h.2 hf
  exact ⟨Nat.zero_le _, fun _ => ⟨cs, b, k, norm_loc hl hloc 0, hx⟩⟩
theorem norm_ref {live : Live} {l : Lk} {c : Option (Nat × Nat × Nat)} {x : Value} (h : RefOk w env tmps l c x) (hf : freshR env l = true) (hl : liveOk live env l = true) : RefOk w (norm live env) tmps ⟨l.s, 0, l.st, l.off⟩ c x := by
  obtain ⟨cs, bk, hd, hloc, hx⟩ := h.2 hf
  exact ⟨Nat.zero_le _, fun _ => ⟨cs, bk, hd, norm_loc hl hloc 0, hx⟩⟩

theorem normV_ok {live : Live} {want : Option (Ty × An)} {v : V} {x : Value} {O R : List Nat} (h : SlotOk w env tmps v x O R) (hnd : O.Nodup) (hur : ∀ b ∈ O, b ∉ R) :
    ∃ O' R', SlotOk w (norm live env) tmps (normV live env want v) x O' R' ∧ O'.Sublist O ∧ (∀ b ∈ R', b ∈ O ∨ b ∈ R) ∧ ∀ b ∈ O', b ∉ R' := by
  have dead : ∃ O' R', SlotOk w (norm live env) tmps .dead x O' R' ∧ O'.Sublist O ∧ (∀ b ∈ R', b ∈ O ∨ b ∈ R) ∧ ∀ b ∈ O', b ∉ R' :=
    ⟨[], [], ⟨rfl, rfl⟩, by simp, by simp, by simp⟩
  have same : ∀ {v : V}, SlotOk w (norm live env) tmps v x O R → ∃ O' R', SlotOk w (norm live env) tmps v x O' R' ∧ O'.Sublist O ∧ (∀ b ∈ R', b ∈ O ∨ b ∈ R) ∧ ∀ b ∈ O', b ∉ R' :=
    fun h => ⟨O, R, h, List.Sublist.refl _, fun b hb => .inr hb, hur⟩
  cases v with
  | dat t a y =>
    cases want with
    | none => exact same h
    | some p =>
      obtain ⟨u, b⟩ := p
      simp only [normV]
      cases hc : a.coe b with
      | false => exact dead
      | true =>
        obtain ⟨cs, hk, hr⟩ := h
        obtain ⟨O', R', h1, h2, h3, h4⟩ := hr.coe hc hnd hur
        exact ⟨O', R', ⟨cs, hk, h1⟩, h2, h3, h4⟩
  | box t a y =>
    cases want with
    | none => exact same h
    | some p =>
      obtain ⟨u, b⟩ := p
      simp only [normV]
      cases hc : a.coe b with
      | false => exact dead
      | true => exact RepBox.coe h hc hnd hur
  | nil =>
    obtain ⟨rfl, rfl, rfl⟩ := h
    cases want with
    | none => exact same ⟨rfl, rfl, rfl⟩
    | some p =>
      obtain ⟨u, b⟩ := p
      cases u with
      | sl e =>
        refine same (v := .dat (.sl e) b ([] : List e.den)) ⟨[.slice none 0 0], rfl, ?_⟩
        cases b with
        | hole => exact ⟨rfl, rfl, _, rfl, rfl⟩
        | own el ae => exact ⟨_, [], [], rfl, World.ownsRow_nil w 0 el e.sz, by simp [maxEl], rfl, rfl, rfl, rfl⟩
        | ro => exact ⟨rfl, .inl ⟨rfl, rfl, none, 0, rfl⟩⟩
        | pair a b => exact ⟨rfl, .inl ⟨rfl, rfl, none, 0, rfl⟩⟩
      | _ => exact dead
  | ptr l =>
    have : normV live env want (.ptr l) = bif freshP env l && liveOk live env l then .ptr ⟨l.s, 0, l.st, l.off⟩ else .dead := by cases want <;> rfl
    rw [this]
    cases hc : freshP env l && liveOk live env l with
    | false => exact dead
    | true =>
      simp only [Bool.and_eq_true] at hc
      exact same ⟨h.1, h.2.1, norm_ptr h.2.2 hc.1 hc.2⟩
  | ref l c =>
    have : normV live env want (.ref l c) = bif freshR env l && liveOk live env l then .ref ⟨l.s, 0, l.st, l.off⟩ c else .dead := by cases want <;> rfl
    rw [this]
    cases hc : freshR env l && liveOk live env l with
    | false => exact dead
    | true =>
      simp only [Bool.and_eq_true] at hc
      exact same ⟨h.1, h.2.1, norm_ref h.2.2 hc.1 hc.2⟩
  | fnc f ls =>
    have : normV live env want (.fnc f ls) = bif ls.all (fun l => freshP env l && liveOk live env l) then .fnc f (ls.map fun l => ⟨l.s, 0, l.st, l.off⟩) else .dead := by cases want <;> rfl
    rw [this]
    cases hc : ls.all (fun l => freshP env l && liveOk live env l) with
    | false => exact dead
    | true =>
      simp only [cond_true]
      simp only [List.all_eq_true, Bool.and_eq_true] at hc
      obtain ⟨h1, h2, vs, rfl, hl, hj⟩ := h
      refine same ⟨h1, h2, vs, rfl, by simpa using hl, fun j l hjl => ?_⟩
      rw [List.getElem?_map] at hjl
      cases hlj : ls[j]? with
      | none => rw [hlj] at hjl; simp at hjl
      | some l0 =>
        rw [hlj] at hjl
        simp only [Option.map_some, Option.some.injEq] at hjl
        subst hjl
        obtain ⟨v, e, h'⟩ := hj j l0 hlj
        have := hc l0 (List.mem_of_getElem? hlj)
        exact ⟨v, e, norm_ptr h' this.1 this.2⟩
  | fnv f ds =>
    have : normV live env want (.fnv f ds) = .fnv f ds := by cases want <;> rfl
    rw [this]; exact same h
  | fnl s t =>
    have : normV live env want (.fnl s t) = bif Nat.ble (get env s).ver t then .fnl s 0 else .dead := by cases want <;> rfl
    rw [this]
    cases hc : Nat.ble (get env s).ver t with
    | false => exact dead
    | true => exact same ⟨h.1, h.2.1, Nat.zero_le _, fun _ => h.2.2.2 (Nat.le_of_ble_eq_true hc)⟩
  | tup ds =>
    have : normV live env want (.tup ds) = .tup ds := by cases want <;> rfl
    rw [this]; exact same h
  | agg cs => cases want <;> exact dead
  | rop t y off => cases want <;> exact dead
  | dead => cases want <;> exact dead

/-- A FRAME TOLD ANEW. -/
theorem norm_ok (h : Rel w env tmps Of Rf) (live : Live) : ∃ Of' Rf', Rel w (norm live env) tmps Of' Rf' ∧ (∀ s b, b ∈ Of' s → b ∈ Of s) ∧ ∀ s b, b ∈ Rf' s → b ∈ Of s ∨ b ∈ Rf s := by
  have hs : ∀ s, ∃ q : List Nat × List Nat, SlotOk w (norm live env) tmps (get (norm live env) s).v (tv tmps s) q.1 q.2 ∧ q.1.Sublist (Of s) ∧ (∀ b ∈ q.2, b ∈ Of s ∨ b ∈ Rf s) ∧ ∀ b ∈ q.1, b ∉ q.2 := by
    intro s
    rw [get_norm]
    cases List.lookup s live with
    | none => exact ⟨([], []), ⟨rfl, rfl⟩, by simp, by simp, by simp⟩
    | some want =>
      obtain ⟨O', R', h1, h2, h3, h4⟩ := normV_ok (live := live) (want := want) (h.slot s) (h.nodup s) (fun b hb => h.unread s s b hb)
      exact ⟨(O', R'), h1, h2, h3, h4⟩
  obtain ⟨q, hq⟩ := Classical.axiomOfChoice hs
  refine ⟨fun s => (q s).1, fun s => (q s).2, ⟨by rw [norm_len]; exact h.size, fun s => (hq s).1, fun s => (hq s).2.1.nodup (h.nodup s), fun s s' b hne hb hb' => ?_, fun s s' b hb hb' => ?_⟩, fun s b hb => (hq s).2.1.subset hb, fun s b hb => (hq s).2.2.1 b hb⟩
  · exact h.apart s s' b hne ((hq s).2.1.subset hb) ((hq s').2.1.subset hb')
  · by_cases e : s = s'
    · subst e; exact (hq s).2.2.2 b hb hb'
    · rcases (hq s').2.2.1 b hb' with h1 | h1
      · exact h.apart s s' b e ((hq s).2.1.subset hb) h1
      · exact h.unread s s' b ((hq s).2.1.subset hb) h1

theorem takeRes_ok {e0 : Env} {Of0 Rf0 : Nat → List Nat} (h : Rel w e0 tmps Of0 Rf0) : ∀ (rs : List (Ty × An)) (vs : List V) (xs : List Value) {env : Env} {Of Rf : Nat → List Nat} {ws0 Oa Ra : List Nat} {q : List (Σ t : Ty, t.den) × Env},
    Tk w tmps e0 Of0 Rf0 env Of Rf ws0 Oa Ra → takeRes e0 env rs vs = some q → xs.length = vs.length →
    (∀ (j : Nat) (v : V), vs[j]? = some v → ∃ x R', xs[j]? = some x ∧ SlotOk w e0 tmps v x [] R' ∧ ∀ b ∈ R', ∃ s, b ∈ Rf0 s) →
    ∃ Os Rs O1 R1 Of1 Rf1 ws, RepL (RepOne w) (toDats rs q.1) xs Os Rs ∧ q.1.map (·.1) = rs.map (·.1) ∧ Tk w tmps e0 Of0 Rf0 q.2 Of1 Rf1 ws (Oa ++ O1) (Ra ++ R1) ∧ Os.Nodup ∧ (∀ b ∈ Os, b ∈ O1) ∧ (∀ b ∈ Rs, b ∈ R1 ∨ b ∈ O1) ∧ ∀ b ∈ Os, b ∉ Rs := by
  intro rs
  induction rs with
  | nil =>
    intro vs xs env Of Rf ws0 Oa Ra q k hq hlen hv
    cases vs with
    | cons v vs => simp [takeRes] at hq
    | nil =>
      simp [takeRes] at hq
      subst hq
      have : xs = [] := List.eq_nil_of_length_eq_zero (by simpa using hlen)
      subst this
      exact ⟨[], [], [], [], Of, Rf, ws0, ⟨rfl, rfl, rfl⟩, rfl, by simpa using k, List.nodup_nil, by simp, by simp, by simp⟩
  | cons r rs ih =>
    obtain ⟨t, a⟩ := r
    intro vs xs env Of Rf ws0 Oa Ra q k hq hlen hv
    cases vs with
    | nil => simp [takeRes] at hq
    | cons v vs =>
      cases xs with
      | nil => simp at hlen
      | cons x xs =>
        simp only [takeRes, Option.bind_eq_some_iff] at hq
        obtain ⟨p, hp, hq⟩ := hq
        cases hc : p.a.coe a with
        | false => simp [hc] at hq
        | true =>
          simp only [hc, cond_true, Option.map_eq_some_iff] at hq
          obtain ⟨q', hq', rfl⟩ := hq
          obtain ⟨x', R', hx', hs, hR⟩ := hv 0 v rfl
          simp at hx'
          subst hx'
          obtain ⟨cs, O1, R1, Of1, Rf1, hk, hr, hk1⟩ := takeV_gen h k hs hR hp
          have hcl := Tk.clean h hk1
          have hnd1 := (List.nodup_append.1 hk1.nd).2.1
          obtain ⟨O', R2, g1, g2, g3, g4⟩ := hr.coe hc hnd1 (fun b hb hr => hcl.2.1 b (by simp [hb]) (by simp [hr]))
          obtain ⟨Os, Rs, O3, R3, Of3, Rf3, ws, i1, i2, i3, i4, i5, i6, i7⟩ := ih vs xs hk1 hq' (by simpa using hlen) (fun j v hj => by simpa using hv (j + 1) v (by simpa using hj))
          have hnd3 := i3.nd
          rw [List.append_assoc, List.nodup_append] at hnd3
          have hnd4 := List.nodup_append.1 hnd3.2.1
          have hcl3 := Tk.clean h i3
          refine ⟨O' ++ Os, R2 ++ Rs, O1 ++ O3, R1 ++ R3, Of3, Rf3, ws, ⟨[x], xs, O', Os, R2, Rs, rfl, rfl, rfl, ⟨x, cs, rfl, hk, g1⟩, i1⟩, by simp [i2], by simpa using i3, ?_, ?_, ?_, ?_⟩
          · rw [List.nodup_append]
            exact ⟨g2.nodup hnd1, i4, fun b hb c hc e => hnd4.2.2 b (g2.subset hb) c (i5 c hc) e⟩
          · intro b hb
            rcases List.mem_append.1 hb with hb | hb
            · exact List.mem_append.2 (.inl (g2.subset hb))
            · exact List.mem_append.2 (.inr (i5 b hb))
          · intro b hb
            rcases List.mem_append.1 hb with hb | hb
            · rcases g3 b hb with hb | hb
              · exact .inr (List.mem_append.2 (.inl hb))
              · exact .inl (List.mem_append.2 (.inl hb))
            · rcases i6 b hb with hb | hb
              · exact .inl (List.mem_append.2 (.inr hb))
              · exact .inr (List.mem_append.2 (.inr hb))
          · intro b hb hb'
            rcases List.mem_append.1 hb with hb | hb
            · rcases List.mem_append.1 hb' with hb' | hb'
              · exact g4 b hb hb'
              · rcases i6 b hb' with hx | hx
                · exact hcl3.2.1 b (by simp [g2.subset hb]) (by simp [hx])
                · exact hnd4.2.2 b (g2.subset hb) b hx rfl
            · rcases List.mem_append.1 hb' with hb' | hb'
              · rcases g3 b hb' with hx | hx
                · exact hnd4.2.2 b hx b (i5 b hb) rfl
                · exact hcl3.2.1 b (by simp [i5 b hb]) (by simp [hx])
              · exact i7 b hb hb'

theorem keepOf_ge : ∀ (ps : List Par) (j s : Nat), s ∈ keepOf j ps → j ≤ s
  | [], j, s, h => by simp [keepOf] at h
  | .val _ _ :: ps, j, s, h => Nat.le_of_succ_le (keepOf_ge ps (j + 1) s h)
  | .io _ _ :: ps, j, s, h => by
    simp only [keepOf, List.mem_cons] at h
    rcases h with rfl | h
    · exact Nat.le_refl _
    · exact Nat.le_of_succ_le (keepOf_ge ps (j + 1) s h)
  | .iol _ _ _ :: ps, j, s, h => by
    simp only [keepOf, List.mem_cons] at h
    rcases h with rfl | h
    · exact Nat.le_refl _
    · exact Nat.le_of_succ_le (keepOf_ge ps (j + 1) s h)
  | .fn _ _ :: ps, j, s, h => by
    simp only [keepOf, List.mem_cons] at h
    rcases h with rfl | h
    · exact Nat.le_refl _
    · exact Nat.le_of_succ_le (keepOf_ge ps (j + 1) s h)

theorem takeOuts_ok (h : Rel w env tmps Of Rf) : ∀ (ps : List Par) (j : Nat) (vs0 : List Value) {ds : List (Σ t : Ty, t.den)}, takeOuts env j ps = some ds → vs0.length = ps.length → (∀ s ∈ keepOf j ps, tv tmps s = vs0.getD (s - j) undef) →
    ∃ Os Rs, OutsRep w ps ds vs0 Os Rs ∧ Os.Nodup ∧ (∀ b ∈ Os, ∃ s, j ≤ s ∧ b ∈ Of s) ∧ (∀ b ∈ Rs, ∃ s, (j ≤ s ∧ b ∈ Of s) ∨ b ∈ Rf s) ∧ ∀ b ∈ Os, b ∉ Rs := by
  intro ps
  induction ps with
  | nil =>
    intro j vs0 ds hd hl hk
    simp [takeOuts] at hd
    subst hd
    have : vs0 = [] := List.eq_nil_of_length_eq_zero (by simpa using hl)
    subst this
    exact ⟨[], [], ⟨rfl, rfl, rfl, rfl⟩, List.nodup_nil, by simp, by simp, by simp⟩
  | cons p ps ih =>
    intro j vs0 ds hd hl hk
    cases vs0 with
    | nil => simp at hl
    | cons v0 vs0 =>
      have hkt : ∀ s ∈ keepOf (j + 1) ps, tv tmps s = vs0.getD (s - (j + 1)) undef := by
        intro s hs
        have h1 := keepOf_ge _ _ _ hs
        have h2 : s ∈ keepOf j (p :: ps) := by cases p <;> simp [keepOf, hs]
        rw [hk s h2]
        have : s - j = (s - (j + 1)) + 1 := by omega
        rw [this]; rfl
      -- the step, once
      have step : ∀ (d1 d2 : List (Σ t : Ty, t.den)) (O1 R1 : List Nat), takeOuts env (j + 1) ps = some d2 → ParOut w p d1 v0 O1 R1 → O1.Nodup → (∀ b ∈ O1, b ∈ Of j) → (∀ b ∈ R1, b ∈ Of j ∨ b ∈ Rf j) → (∀ b ∈ O1, b ∉ R1) →
          ∃ Os Rs, OutsRep w (p :: ps) (d1 ++ d2) (v0 :: vs0) Os Rs ∧ Os.Nodup ∧ (∀ b ∈ Os, ∃ s, j ≤ s ∧ b ∈ Of s) ∧ (∀ b ∈ Rs, ∃ s, (j ≤ s ∧ b ∈ Of s) ∨ b ∈ Rf s) ∧ ∀ b ∈ Os, b ∉ Rs := by
        intro d1 d2 O1 R1 hd2 hp hnd hO hR hur
        obtain ⟨Os, Rs, i1, i2, i3, i4, i5⟩ := ih (j + 1) vs0 hd2 (by simpa using hl) hkt
        refine ⟨O1 ++ Os, R1 ++ Rs, ⟨d1, d2, v0, vs0, O1, Os, R1, Rs, rfl, rfl, rfl, rfl, hp, i1⟩, ?_, ?_, ?_, ?_⟩
        · rw [List.nodup_append]
          refine ⟨hnd, i2, fun b hb c hc e => ?_⟩
          subst e
          obtain ⟨s, hs, hb'⟩ := i3 b hc
          exact h.apart j s b (by omega) (hO b hb) hb'
        · intro b hb
          rcases List.mem_append.1 hb with hb | hb
          · exact ⟨j, Nat.le_refl _, hO b hb⟩
          · obtain ⟨s, hs, hb'⟩ := i3 b hb; exact ⟨s, by omega, hb'⟩
        · intro b hb
          rcases List.mem_append.1 hb with hb | hb
          · rcases hR b hb with hb | hb
            · exact ⟨j, .inl ⟨Nat.le_refl _, hb⟩⟩
            · exact ⟨j, .inr hb⟩
          · obtain ⟨s, hs⟩ := i4 b hb
            rcases hs with ⟨h1, h2⟩ | h2
            · exact ⟨s, .inl ⟨by omega, h2⟩⟩
            · exact ⟨s, .inr h2⟩
        · intro b hb hb'
          rcases List.mem_append.1 hb with hb | hb
          · rcases List.mem_append.1 hb' with hb' | hb'
            · exact hur b hb hb'
            · obtain ⟨s, hs⟩ := i4 b hb'
              rcases hs with ⟨h1, h2⟩ | h2
              · exact h.apart j s b (by omega) (hO b hb) h2
              · exact h.unread j s b (hO b hb) h2
          · rcases List.mem_append.1 hb' with hb' | hb'
            · obtain ⟨s, hs, h2⟩ := i3 b hb
              rcases hR b hb' with h3 | h3
              · exact h.apart s j b (by omega) h2 h3
              · exact h.unread s j b h2 h3
            · exact i5 b hb hb'
      have hnd := h.nodup j
      have hur : ∀ b ∈ Of j, b ∉ Rf j := fun b hb => h.unread j j b hb
      cases p with
      | val t a =>
        simp only [takeOuts] at hd
        simpa using step [] ds [] [] hd ⟨rfl, rfl, rfl⟩ List.nodup_nil (by simp) (by simp) (by simp)
      | io t a =>
        have hv0 : tv tmps j = v0 := by rw [hk j (by simp [keepOf])]; simp
        have hs := h.slot j
        simp only [takeOuts] at hd
        split at hd
        · rename_i u b x hv
          rw [hv, hv0] at hs
          simp only [Option.bind_eq_some_iff] at hd
          obtain ⟨q, hq, hd⟩ := hd
          obtain ⟨e, rfl⟩ := Dat.as_mk hq
          cases e
          cases hc : b.coe a with
          | false => simp [hc] at hd
          | true =>
            simp only [hc, cond_true, Option.map_eq_some_iff] at hd
            obtain ⟨r, hr, rfl⟩ := hd
            obtain ⟨O', R', g1, g2, g3, g4⟩ := RepBox.coe hs hc hnd hur
            exact step [⟨t, x⟩] r O' R' hr ⟨x, rfl, g1⟩ (g2.nodup hnd) (fun b hb => g2.subset hb) g3 g4
        · cases hd
      | iol e el a =>
        have hv0 : tv tmps j = v0 := by rw [hk j (by simp [keepOf])]; simp
        have hs := h.slot j
        simp only [takeOuts] at hd
        split at hd
        · rename_i u b x hv
          rw [hv, hv0] at hs
          simp only [Option.bind_eq_some_iff] at hd
          obtain ⟨q, hq, hd⟩ := hd
          obtain ⟨e', rfl⟩ := Dat.as_mk hq
          cases e'
          cases hc : b.coe (.own el a) with
          | false => simp [hc] at hd
          | true =>
            simp only [hc, cond_true, Option.map_eq_some_iff] at hd
            obtain ⟨r, hr, rfl⟩ := hd
            obtain ⟨cs, hkk, hrep⟩ := hs
            have hcs : cs = [v0] := hkk
            subst hcs
            obtain ⟨O', R', g1, g2, g3, g4⟩ := hrep.coe hc hnd hur
            exact step [⟨.sl e, x⟩] r O' R' hr ⟨x, rfl, g1⟩ (g2.nodup hnd) (fun b hb => g2.subset hb) g3 g4
        · cases hd
      | fn f caps =>
        have hv0 : tv tmps j = v0 := by rw [hk j (by simp [keepOf])]; simp
        have hs := h.slot j
        simp only [takeOuts] at hd
        split at hd
        · rename_i g ds' hv
          rw [hv, hv0] at hs
          cases hg : (g == f) with
          | false => simp [hg] at hd
          | true =>
            have : g = f := by simpa using hg
            subst this
            simp only [hg, cond_true, Option.bind_eq_some_iff, Option.map_eq_some_iff] at hd
            obtain ⟨q, hq, r, hr, rfl⟩ := hd
            obtain ⟨vs, rfl, hl'⟩ := hs
            obtain ⟨O', R', g1, g2, g3, g4, g5⟩ := capDats_ok caps ds' vs hq hl' hnd hur
            exact step q r O' R' hr ⟨vs, rfl, g2, g1⟩ (g3.nodup hnd) (fun b hb => g3.subset hb) g4 g5
        · cases hd

end
end Go.Vm
