/- Regions whose order is drawn, for the evaluator Vm. Own work; lemmas. No condition. -/
import Derived.Test.YthnkkchlgepdaaaVmZg
namespace Go.Vm
open Go.RowKit
set_option linter.unusedVariables false

section
variable {P : Program} {w : World} {env : Env} {tmps : Array Value} {Of Rf : Nat → List Nat} {o : Oper} {d : Nat}

theorem get_merge_out {ws : List Nat} {u env : Env} {s : Nat} (h : s ∉ ws) : get (merge ws u env) s = get env s := by
  by_cases hs : s < env.length
  · unfold merge; rw [get_mapIx _ _ _ hs]; simp [h]
  · rw [get_out _ _ (by rw [merge_len]; exact hs), get_out env s hs]
theorem get_merge_lt {ws : List Nat} {u env : Env} {s : Nat} (h : s < env.length) : get (merge ws u env) s = if s ∈ ws then get u s else get env s := by
  unfold merge; rw [get_mapIx _ _ _ h]
  by_cases hs : s ∈ ws <;> simp [hs]

theorem merge_comm {w1 w2 : List Nat} {u1 u2 env : Env} (h : ∀ s ∈ w1, s ∉ w2) : merge w2 u2 (merge w1 u1 env) = merge w1 u1 (merge w2 u2 env) := by
  apply env_ext (by simp [merge_len])
  intro s hs
  simp only [merge_len] at hs
  rw [get_merge_lt (by rw [merge_len]; exact hs), get_merge_lt hs, get_merge_lt (by rw [merge_len]; exact hs), get_merge_lt hs]
  by_cases a : s ∈ w1
  · simp [a, h s a]
  · simp [a]

theorem mem_touch_operand {ops : Array Oper} {e : Env} {s : Nat} (h : Operand.tmp s ∈ o.op.operands.toList) : s ∈ touch ops e o := by
  unfold touch
  refine List.mem_append.2 (.inr (List.mem_flatMap.2 ⟨_, h, by simp [touchX]⟩))

theorem touch_congr {ops : Array Oper} {e e' : Env} (h : ∀ s ∈ touch ops e o, get e' s = get e s) : touch ops e' o = touch ops e o := by
  unfold touch
  congr 1
  have : ∀ x ∈ o.op.operands.toList, touchX e' x = touchX e x := by
    intro x hx
    cases x with
    | tmp s => simp only [touchX]; rw [h s (mem_touch_operand hx)]
    | _ => rfl
  generalize o.op.operands.toList = L at this
  induction L with
  | nil => rfl
  | cons x L ih =>
    simp only [List.flatMap_cons]
    rw [this x (by simp), ih (fun y hy => this y (by simp [hy]))]

theorem gb_congr {ops : Array Oper} {e e' : Env} (h : ∀ s ∈ touch ops e o, get e' s = get e s) : gb ops o e' = gb ops o e := by
  unfold gb
  cases hg : o.guard with
  | none => rfl
  | some q =>
    simp only
    cases hs : guardSlot ops o with
    | none => rfl
    | some p =>
      obtain ⟨g, b⟩ := p
      simp only
      rw [h g (by unfold touch; rw [hs]; simp)]

theorem restr_congr {ts : List Nat} {e e' : Env} (hl : e'.length = e.length) (h : ∀ s ∈ ts, get e' s = get e s) : restr ts e' = restr ts e := by
  apply env_ext (by simp [restr_len, hl])
  intro s hs
  rw [get_restr, get_restr]
  split
  · rename_i hs'; rw [h s hs']
  · rfl

/-- what an operation of a drawn region comes to -/
def aOf (cx : Cx) (ops : Array Oper) (o : Oper) (b : Bool) (e : Env) : Act := gactB cx o b (restr (touch ops e o) e)
def eOf (cx : Cx) (ops : Array Oper) (j : Nat) (o : Oper) (b : Bool) (e : Env) : TrE := ⟨j, touch ops e o, (aOf cx ops o b e).ws, opX o⟩

theorem aOf_congr {cx : Cx} {ops : Array Oper} {b : Bool} {e e' : Env} (hl : e'.length = e.length) (h : ∀ s ∈ touch ops e o, get e' s = get e s) : aOf cx ops o b e' = aOf cx ops o b e := by
  unfold aOf
  rw [touch_congr h, restr_congr hl h]

theorem forceN_iff {n : Nat} {k : Nat → Prop} : forceN n k ↔ k n := by unfold forceN; cases n <;> rfl
theorem forceNs_iff : ∀ {l : List Nat} {k : List Nat → Prop}, forceNs l k ↔ k l
  | [], k => Iff.rfl
  | x :: xs, k => by simp only [forceNs, forceN_iff, forceNs_iff]

theorem wpActW_iff {chk : List Nat → Bool} {fin : List Nat → Env → Env} {call : CallP} {a : Act} {K : List Nat → Option Prop → Env → Prop} : wpActW chk fin call a K ↔ (chk a.ws = true ∧ wpActD (fin a.ws) call a (K a.ws)) := by
  cases a with
  | bad => simp [wpActW, wpActD]
  | ok pre h u ws =>
    cases pre with
    | none => simp only [wpActW, wpActD, Act.ws, forceNs_iff]; cases chk ws <;> simp
    | some p => simp only [wpActW, wpActD, Act.ws, forceNs_iff]; cases chk ws <;> simp
  | call g sg x ws k => simp only [wpActW, wpActD, Act.ws, forceNs_iff]; cases chk ws <;> simp

theorem evDraw_cons {cx : Cx} {call : CallP} {ops : Array Oper} {am : List Nat} {j : Nat} {js : List Nat} {tr : List TrE} {hs : List Prop} {K : Env → Prop} : evDraw cx call ops am (j :: js) tr hs env K ↔
    ∃ o b, ops[j]? = some o ∧ dstOk cx env o = true ∧ gb ops o env = some b ∧ subL (aOf cx ops o b env).ws (touch ops env o) = true ∧ tr.all (fun p => pairOk ops.size am p (eOf cx ops j o b env)) = true ∧
      wpActD (fun u => merge (aOf cx ops o b env).ws u env) call (aOf cx ops o b env) fun hyp e' => evDraw cx call ops am js (tr ++ [eOf cx ops j o b env]) (hs ++ hyp.toList) e' K := by
  conv => lhs; unfold evDraw
  cases hj : ops[j]? with
  | none => simp
  | some o =>
    simp only [Option.some.injEq]
    cases hd : dstOk cx env o with
    | false => simp [hd]
    | true =>
      simp only [cond_true]
      rw [evGuard_iff]
      constructor
      · rintro ⟨b, hb, h⟩
        rw [forceNs_iff, wpActW_iff, Bool.and_eq_true] at h
        exact ⟨o, b, rfl, hd, hb, h.1.1, h.1.2, h.2⟩
      · rintro ⟨o', b, rfl, -, hb, h1, h2, h⟩
        refine ⟨b, hb, ?_⟩
        rw [forceNs_iff, wpActW_iff, Bool.and_eq_true]
        exact ⟨⟨h1, h2⟩, h⟩

theorem wpActD_imp {a : Act} {fin fin' : Env → Env} {K K' : Option Prop → Env → Prop} (hk : ∀ h u, K h (fin u) → K' h (fin' u)) (h : wpActD fin (CallsT P) a K) : wpActD fin' (CallsT P) a K' := by
  cases a with
  | bad => exact h
  | ok pre hyp u ws =>
    cases pre with
    | none => exact hk _ _ h
    | some p => exact ⟨h.1, hk _ _ h.2⟩
  | call g sg x ws k => exact CallsT.mono h fun r o hK => hk _ _ hK

theorem imps_iff : ∀ {hs : List Prop} {K : Prop}, imps hs K ↔ ((∀ h ∈ hs, h) → K)
  | [], K => by simp [imps]
  | h :: hs, K => by
    simp only [imps, imps_iff (hs := hs), List.forall_mem_cons]
    exact ⟨fun f ⟨a, b⟩ => f a b, fun f a b => f ⟨a, b⟩⟩

theorem evDraw_weak {cx : Cx} {ops : Array Oper} {am : List Nat} {K : Env → Prop} : ∀ (js : List Nat) {tr tr' : List TrE} {hs hs' : List Prop} {env : Env}, (∀ p ∈ tr', p ∈ tr) → (∀ h ∈ hs, h ∈ hs') →
    evDraw cx (CallsT P) ops am js tr hs env K → evDraw cx (CallsT P) ops am js tr' hs' env K := by
  intro js
  induction js with
  | nil =>
    intro tr tr' hs hs' env ht hh h
    unfold evDraw at h ⊢
    rw [imps_iff] at h ⊢
    exact fun hx => h fun q hq => hx q (hh q hq)
  | cons j js ih =>
    intro tr tr' hs hs' env ht hh h
    rw [evDraw_cons] at h ⊢
    obtain ⟨o, b, h1, h2, h3, h4, h5, h6⟩ := h
    refine ⟨o, b, h1, h2, h3, h4, ?_, wpActD_imp (fun hyp u hk => ih (fun p hp => ?_) (fun q hq => ?_) hk) h6⟩
    · rw [List.all_eq_true] at h5 ⊢
      exact fun p hp => h5 p (ht p hp)
    · rcases List.mem_append.1 hp with hp | hp
      · exact List.mem_append.2 (.inl (ht p hp))
      · exact List.mem_append.2 (.inr hp)
    · rcases List.mem_append.1 hq with hq | hq
      · exact List.mem_append.2 (.inl (hh q hq))
      · exact List.mem_append.2 (.inr hq)

theorem disj_spec {a b : List Nat} (h : disj a b = true) : ∀ s ∈ a, s ∉ b := by
  simpa [disj] using h

theorem callOk_head {ops : Array Oper} {am : List Nat} {i j : Nat} {l1 l2 : List Nat} (h : callOk ops am (i :: (l1 ++ j :: l2)) = true) (ha : anc ops.size am j i = false) : callAt ops i = false := by
  simp only [callOk, Bool.and_eq_true, Bool.or_eq_true, Bool.not_eq_true', List.all_eq_true] at h
  rcases h.1 with h1 | h1
  · exact h1
  · have := h1 j (by simp)
    rw [ha] at this; cases this

/-- the frame behind a part of results taken out -/
def XE (env : Env) (s a d : Nat) (ds : List Dat) (c : Dat) : Env :=
  if c.a.plain = true then env.set d ((get env d).fresh (.dat c.t .ro c.x))
  else (env.set s ((get env s).form (.tup (ds.set a ⟨c.t, .hole, c.x⟩)))).set d ((get env d).fresh (.dat c.t c.a c.x))
def XW (s d : Nat) (c : Dat) : List Nat := if c.a.plain = true then [d] else [s, d]

theorem opX_spec {s a d : Nat} (h : opX o = some (s, a, d)) : o.guard = none ∧ o.dst = some d ∧ o.op = .extract (.tmp s) a := by
  unfold opX at h
  split at h
  · rename_i d' s' i hg hd ho
    cases h
    exact ⟨hg, hd, ho⟩
  · cases h

theorem ex_touch {ops : Array Oper} {s a d : Nat} (h : opX o = some (s, a, d)) {ds : List Dat} (hv : (get env s).v = .tup ds) : touch ops env o = [d, s] := by
  obtain ⟨hg, hd, ho⟩ := opX_spec h
  unfold touch guardSlot
  rw [hg, hd, ho]
  simp only [Op.operands, Option.toList, List.flatMap_cons, List.flatMap_nil, touchX, slotV, hv, V.links, List.append_nil, List.singleton_append]

theorem get_set2 {e : Env} {s d : Nat} {X Y : Slot} (hs : s < e.length) (hd : d < e.length) (k : Nat) : get ((e.set s X).set d Y) k = if k = d then Y else if k = s then X else get e k := by
  rw [get_set _ _ _ _ (by rw [List.length_set]; exact hd)]
  split
  · rfl
  · rw [get_set _ _ _ _ hs]

theorem ex_act {cx : Cx} {ops : Array Oper} {s a d : Nat} (h : opX o = some (s, a, d)) (hsd : s ≠ d) (hd : d < env.length) {ds : List Dat} (hv : (get env s).v = .tup ds) {c : Dat} (hc : ds[a]? = some c) :
    ∃ u, aOf cx ops o true env = .ok none none u (XW s d c) ∧ merge (XW s d c) u env = XE env s a d ds c := by
  have ht := ex_touch (ops := ops) h hv
  obtain ⟨hg, hdst, ho⟩ := opX_spec h
  have hsl : s < env.length := get_lt (by rw [hv]; simp)
  have hgs : get (restr [d, s] env) s = get env s := by
    rw [get_restr, if_pos (by simp), hv]
    show (⟨_, _, _, _, V.tup ds⟩ : Slot) = _
    rw [← hv]
  obtain ⟨t, an, y⟩ := c
  have hsd' : (s == d) = false := by simpa using hsd
  have hclk : (get (restr [d, s] env) d).now = (get env d).now := by rw [get_restr, if_pos (by simp)]
  have hfr : ∀ v, (get (restr [d, s] env) d).fresh v = (get env d).fresh v := fun v => by simp only [Slot.fresh, hclk]
  unfold aOf
  rw [ht]
  simp only [gactB, act, hdst, ho, extractAct, hsd', cond_false, hgs, hv, hc]
  cases hp : an.plain with
  | true =>
    simp only [cond_true, XW, XE, hp, if_true, put, List.nil_append]
    refine ⟨_, rfl, ?_⟩
    apply env_ext (by simp [merge_len])
    intro k hk
    simp only [merge_len] at hk
    rw [get_merge_lt hk, get_set _ _ _ _ (by rw [restr_len]; exact hd), get_set _ _ _ _ hd]
    by_cases e : k = d
    · subst e; simp [hfr]
    · simp [e]
  | false =>
    simp only [cond_false, XW, XE, hp, Bool.false_eq_true, if_false, put, List.singleton_append]
    refine ⟨_, rfl, ?_⟩
    apply env_ext (by simp [merge_len])
    intro k hk
    simp only [merge_len] at hk
    have hds : ¬ d = s := fun e => hsd e.symm
    have hclk2 : ∀ X : Slot, (get ((restr [d, s] env).set s X) d).now = (get env d).now := fun X => by
      rw [get_set _ _ _ _ (by rw [restr_len]; exact hsl), if_neg hds, hclk]
    have hclk3 : ∀ X : Slot, (get (env.set s X) d).now = (get env d).now := fun X => by
      rw [get_set _ _ _ _ hsl, if_neg hds]
    rw [get_merge_lt hk, get_set2 (by rw [restr_len]; exact hsl) (by rw [restr_len]; exact hd), get_set2 hsl hd]
    simp only [Slot.fresh, hclk2]
    by_cases e : k = d
    · subst e; simp
    · by_cases e2 : k = s
      · subst e2; simp [e]
      · simp [e, e2]

theorem ex_bad {cx : Cx} {ops : Array Oper} {s a d : Nat} {b : Bool} (h : opX o = some (s, a, d)) (hb : gb ops o env = some b) (hn : ∀ {fin : Env → Env} {K : Option Prop → Env → Prop}, aOf cx ops o b env = .bad → wpActD fin (CallsT P) (aOf cx ops o b env) K → False) {fin : Env → Env} {K : Option Prop → Env → Prop} (hw : wpActD fin (CallsT P) (aOf cx ops o b env) K) :
    b = true ∧ ∃ ds c, (get env s).v = .tup ds ∧ ds[a]? = some c := by
  obtain ⟨hg, hdst, ho⟩ := opX_spec h
  have hbt : b = true := by
    unfold gb at hb; rw [hg] at hb; simpa using hb.symm
  subst hbt
  refine ⟨rfl, ?_⟩
  have hbad : (∃ ds c, (get env s).v = .tup ds ∧ ds[a]? = some c) ∨ aOf cx ops o true env = .bad := by
    unfold aOf
    simp only [gactB, act, hdst, ho, extractAct]
    cases hsd : (s == d) with
    | true => exact .inr rfl
    | false =>
      simp only [cond_false]
      split
      · rename_i ds hv
        split
        · rename_i t an y hc
          left
          have hv' : (get env s).v = .tup ds := by
            rw [get_restr] at hv
            split at hv
            · simp only at hv
              unfold keepV at hv
              cases hk : subL (get env s).v.links (touch ops env o) with
              | true => rw [hk] at hv; exact hv
              | false => rw [hk] at hv; cases hv
            · cases hv
          exact ⟨ds, _, hv', hc⟩
        · exact .inr rfl
      · exact .inr rfl
  rcases hbad with h1 | h1
  · exact h1
  · exact (hn h1 hw).elim

theorem XE_get {s a d : Nat} {ds : List Dat} {c : Dat} (hsd : s ≠ d) (hs : s < env.length) (hd : d < env.length) (hv : (get env s).v = .tup ds) (k : Nat) : get (XE env s a d ds c) k =
    if k = d then (get env d).fresh (.dat c.t (if c.a.plain = true then .ro else c.a) c.x) else if k = s then (if c.a.plain = true then get env s else (get env s).form (.tup (ds.set a ⟨c.t, .hole, c.x⟩))) else get env k := by
  unfold XE
  by_cases hp : c.a.plain = true
  · simp only [hp, if_true]
    rw [get_set _ _ _ _ hd]
    by_cases e : k = d
    · simp [e]
    · by_cases e2 : k = s
      · subst e2; simp [e]
      · simp [e, e2]
  · simp only [if_neg hp]
    rw [get_set2 hs hd]
theorem XE_len {s a d : Nat} {ds : List Dat} {c : Dat} : (XE env s a d ds c).length = env.length := by unfold XE; split <;> simp

/-- the parts of results taken out one way or the other -/
theorem XE_comm {s a b d d' : Nat} {ds : List Dat} {c c' : Dat} (hab : a ≠ b) (hdd : d ≠ d') (hsd : s ≠ d) (hsd' : s ≠ d') (hs : s < env.length) (hd : d < env.length) (hd' : d' < env.length) (hv : (get env s).v = .tup ds)
    {ds1 ds2 : List Dat} (h1 : (get (XE env s a d ds c) s).v = .tup ds1) (h2 : (get (XE env s b d' ds c') s).v = .tup ds2) :
    XE (XE env s a d ds c) s b d' ds1 c' = XE (XE env s b d' ds c') s a d ds2 c := by
  have g1 := XE_get (a := a) (c := c) hsd hs hd hv
  have g2 := XE_get (a := b) (c := c') hsd' hs hd' hv
  apply env_ext (by simp [XE_len])
  intro k hk
  rw [XE_get hsd' (by rw [XE_len]; exact hs) (by rw [XE_len]; exact hd') h1, XE_get hsd (by rw [XE_len]; exact hs) (by rw [XE_len]; exact hd) h2]
  rw [g1, if_neg hsd, if_pos rfl] at h1
  rw [g2, if_neg hsd', if_pos rfl] at h2
  rw [g1 d', g2 d, g1 s, g2 s, g1 k, g2 k]
  simp only [if_neg hsd, if_neg hsd', if_neg hdd, if_neg (Ne.symm hdd), if_neg (Ne.symm hsd), if_neg (Ne.symm hsd'), if_true]
  by_cases e1 : k = d'
  · subst e1; simp [Ne.symm hdd, Ne.symm hsd']
  · by_cases e2 : k = d
    · subst e2; simp [hdd, Ne.symm hsd]
    · by_cases e3 : k = s
      · subst e3
        simp only [e1, e2, if_false, if_true]
        by_cases p1 : c.a.plain = true
        · by_cases p2 : c'.a.plain = true
          · simp [p1, p2]
          · simp only [p1, p2, if_true, Bool.false_eq_true, if_false] at h1 h2 ⊢
            rw [hv] at h1
            cases h1
            rfl
        · by_cases p2 : c'.a.plain = true
          · simp only [p1, p2, if_true, Bool.false_eq_true, if_false] at h1 h2 ⊢
            rw [hv] at h2
            cases h2
            rfl
          · simp only [p1, p2, Bool.false_eq_true, if_false, Slot.form] at h1 h2 ⊢
            cases h1
            cases h2
            rw [List.set_comm _ _ hab]
      · simp [e1, e2, e3]

/-- AN OPERATION THAT IS READY may run first. -/
theorem evDraw_front {cx : Cx} {ops : Array Oper} {am : List Nat} {K : Env → Prop} {j : Nat} {l2 : List Nat} : ∀ (l1 : List Nat) {tr : List TrE} {hs : List Prop} {env : Env},
    evDraw cx (CallsT P) ops am (l1 ++ j :: l2) tr hs env K → (∀ i ∈ l1, anc ops.size am j i = false) → callOk ops am (l1 ++ j :: l2) = true →
    ∃ o b, ops[j]? = some o ∧ dstOk cx env o = true ∧ gb ops o env = some b ∧ subL (aOf cx ops o b env).ws (touch ops env o) = true ∧ tr.all (fun p => pairOk ops.size am p (eOf cx ops j o b env)) = true ∧
      wpActD (fun u => merge (aOf cx ops o b env).ws u env) (CallsT P) (aOf cx ops o b env) fun hyp e' => evDraw cx (CallsT P) ops am (l1 ++ l2) tr (hs ++ hyp.toList) e' K := by
  intro l1
  induction l1 with
  | nil =>
    intro tr hs env h _ _
    rw [List.nil_append, evDraw_cons] at h
    obtain ⟨o, b, h1, h2, h3, h4, h5, h6⟩ := h
    exact ⟨o, b, h1, h2, h3, h4, h5, wpActD_imp (fun hyp u hk => evDraw_weak _ (fun p hp => List.mem_append.2 (.inl hp)) (fun q hq => hq) hk) h6⟩
  | cons i l1 ih =>
    intro tr hs env h ha hc
    rw [List.cons_append, evDraw_cons] at h
    obtain ⟨oi, bi, hi1, hi2, hi3, hi4, hi5, hi6⟩ := h
    have hci := callOk_head hc (ha i (by simp))
    simp only [callAt, hi1] at hci
    have hnc : (aOf cx ops oi bi env).nc := gactB_nc hci
    have hc' : callOk ops am (l1 ++ j :: l2) = true := by
      simp only [List.cons_append, callOk, Bool.and_eq_true] at hc
      exact hc.2
    cases hai : aOf cx ops oi bi env with
    | bad => rw [hai] at hi6; exact hi6.elim
    | call g sg x ws k => rw [hai] at hnc; exact hnc.elim
    | ok pre hyp u ws =>
      rw [hai] at hi6
      have hi7 : (∀ p, pre = some p → p) ∧ evDraw cx (CallsT P) ops am (l1 ++ j :: l2) (tr ++ [eOf cx ops i oi bi env]) (hs ++ hyp.toList) (merge ws u env) K := by
        cases pre with
        | none => exact ⟨by simp, hi6⟩
        | some p => exact ⟨fun q hq => by cases hq; exact hi6.1, hi6.2⟩
      obtain ⟨oj, bj, hj1, hj2, hj3, hj4, hj5, hj6⟩ := ih hi7.2 (fun i hi => ha i (by simp [hi])) hc'
      -- they touch nothing of each other
      have hp := (List.all_eq_true.1 hj5) (eOf cx ops i oi bi env) (by simp)
      simp only [pairOk, eOf, ha i (by simp), Bool.or_false, Bool.or_eq_true, Bool.and_eq_true] at hp
      rw [hai, show (Act.ok pre hyp u ws).ws = ws from rfl] at hp
      have hlen : env.length = (merge ws u env).length := by rw [merge_len]
      rcases hp with hp | hp
      case inr =>
        -- two parts of the same results
        unfold exPair at hp
        split at hp
        case h_2 => cases hp
        rename_i s a d s' b d' hxi hxj
        simp only [Bool.and_eq_true, Bool.not_eq_true', beq_iff_eq, beq_eq_false_iff_ne] at hp
        obtain ⟨rfl, hab, hdd, hsd, hsd'⟩ := hp
        have hdi := dstOk_spec hi2 d (opX_spec hxi).2.1
        have hdj := dstOk_spec hj2 d' (opX_spec hxj).2.1
        rw [← hlen] at hdj
        obtain ⟨rfl, ds, c, hv, hc⟩ := ex_bad (P := P) hxi hi3 (fun h1 h2 => by rw [h1] at h2; exact h2.elim) (by rw [hai]; exact hi6)
        have hsl : s < env.length := get_lt (by rw [hv]; simp)
        obtain ⟨u1, hu1, hm1⟩ := ex_act (cx := cx) (ops := ops) hxi hsd hdi.1 hv hc
        rw [hai] at hu1
        cases hu1
        obtain ⟨rfl, ds1, c', hv1, hc1⟩ := ex_bad (P := P) hxj hj3 (fun h1 h2 => by rw [h1] at h2; exact h2.elim) hj6
        have hdj' : d' < (merge (XW s d c) u env).length := by rw [← hlen]; exact hdj.1
        obtain ⟨u2, hu2, hm2⟩ := ex_act (cx := cx) (ops := ops) hxj hsd' hdj' hv1 hc1
        have hcb : ds[b]? = some c' := by
          rw [hm1, XE_get hsd hsl hdi.1 hv, if_neg hsd, if_pos rfl] at hv1
          by_cases hp1 : c.a.plain = true
          · rw [if_pos hp1, hv] at hv1; cases hv1; exact hc1
          · rw [if_neg hp1] at hv1
            simp only [Slot.form] at hv1
            cases hv1
            rw [List.getElem?_set_ne hab] at hc1; exact hc1
        obtain ⟨u3, hu3, hm3⟩ := ex_act (cx := cx) (ops := ops) hxj hsd' hdj.1 hv hcb
        have hv4 : ∃ ds2, (get (XE env s b d' ds c') s).v = .tup ds2 ∧ ds2[a]? = some c := by
          rw [XE_get hsd' hsl hdj.1 hv, if_neg hsd', if_pos rfl]
          by_cases hp1 : c'.a.plain = true
          · rw [if_pos hp1]; exact ⟨ds, hv, hc⟩
          · rw [if_neg hp1]; exact ⟨_, rfl, by rw [List.getElem?_set_ne (Ne.symm hab)]; exact hc⟩
        obtain ⟨ds2, hv2, hc2⟩ := hv4
        have tj : touch ops (merge (XW s d c) u env) oj = touch ops env oj := by rw [ex_touch hxj hv1, ex_touch hxj hv]
        have ej : eOf cx ops j oj true (merge (XW s d c) u env) = eOf cx ops j oj true env := by simp only [eOf]; rw [tj, hu2, hu3]; rfl
        refine ⟨oj, true, hj1, ?_, ?_, ?_, ?_, ?_⟩
        · rw [← hj2]; unfold dstOk
          cases oj.dst with
          | none => rfl
          | some d => simp only; rw [inB_congr d hlen]
        · unfold gb; rw [(opX_spec hxj).1]
        · rw [hu2, tj] at hj4; rw [hu3]; exact hj4
        · rw [List.all_eq_true] at hj5 ⊢
          intro p hp
          have := hj5 p (by simp [hp])
          rw [ej] at this; exact this
        · rw [hu3]
          rw [hu2] at hj6
          simp only [wpActD, Option.toList, List.append_nil] at hj6 ⊢
          simp only [Act.ws] at hj6 ⊢
          rw [hm3, List.cons_append, evDraw_cons]
          rw [hm2] at hj6
          have hdi2 : d < (XE env s b d' ds c').length := by rw [XE_len]; exact hdi.1
          obtain ⟨u5, hu5, hm5⟩ := ex_act (cx := cx) (ops := ops) hxi hsd hdi2 hv2 hc2
          have ti : touch ops (XE env s b d' ds c') oi = touch ops env oi := by rw [ex_touch hxi hv2, ex_touch hxi hv]
          have ei : eOf cx ops i oi true (XE env s b d' ds c') = eOf cx ops i oi true env := by simp only [eOf]; rw [ti, hu5, hai]; rfl
          refine ⟨oi, true, hi1, ?_, ?_, ?_, ?_, ?_⟩
          · rw [← hi2]; unfold dstOk
            cases oi.dst with
            | none => rfl
            | some d => simp only; rw [inB_congr d XE_len]
          · unfold gb; rw [(opX_spec hxi).1]
          · rw [hai] at hi4; rw [hu5, ti]; exact hi4
          · rw [ei]; exact hi5
          · rw [hu5]
            simp only [wpActD, Option.toList, List.append_nil]
            simp only [Act.ws]
            rw [hm5, ei]
            have hcm := XE_comm (c := c) (c' := c') hab hdd hsd hsd' hsl hdi.1 hdj.1 hv (by rw [← hm1]; exact hv1) hv2
            rw [← hcm, ← hm1]
            exact hj6
      obtain ⟨p1, p2, p3⟩ := hp
      have d1 := disj_spec p1
      have d2 := disj_spec p2
      have d3 := disj_spec p3
      have agj : ∀ s ∈ touch ops (merge ws u env) oj, get env s = get (merge ws u env) s := fun s hs => (get_merge_out fun hw => d1 s hw hs).symm
      have etj := touch_congr agj
      have eaj := aOf_congr (cx := cx) (b := bj) hlen agj
      refine ⟨oj, bj, hj1, ?_, ?_, ?_, ?_, ?_⟩
      · rw [← hj2]
        unfold dstOk
        cases oj.dst with
        | none => rfl
        | some d => simp only; rw [inB_congr d hlen]
      · rw [← hj3]; exact gb_congr agj
      · rw [eaj, etj]; exact hj4
      · rw [List.all_eq_true] at hj5 ⊢
        intro p hp
        have := hj5 p (by simp [hp])
        simp only [eOf] at this ⊢
        rw [eaj, etj]; exact this
      · rw [eaj]
        refine wpActD_imp (fun h uj hk => ?_) hj6
        generalize hwj : (aOf cx ops oj bj (merge ws u env)).ws = wj at hk d2 d3 ⊢
        rw [List.cons_append, evDraw_cons]
        have hlen' : (merge wj uj env).length = env.length := merge_len _ _ _
        have agi : ∀ s ∈ touch ops env oi, get (merge wj uj env) s = get env s := fun s hs => get_merge_out fun hw => d2 s hw hs
        have eti := touch_congr agi
        have eai := aOf_congr (cx := cx) (b := bi) hlen' agi
        refine ⟨oi, bi, hi1, ?_, ?_, ?_, ?_, ?_⟩
        · rw [← hi2]
          unfold dstOk
          cases oi.dst with
          | none => rfl
          | some d => simp only; rw [inB_congr d hlen']
        · rw [← hi3]; exact gb_congr agi
        · rw [eai, eti]; exact hi4
        · rw [List.all_eq_true] at hi5 ⊢
          intro p hp
          have := hi5 p hp
          simp only [eOf] at this ⊢
          rw [eai, eti]; exact this
        · rw [eai, hai]
          simp only [Act.ws]
          have fin : evDraw cx (CallsT P) ops am (l1 ++ l2) (tr ++ [eOf cx ops i oi bi (merge wj uj env)]) (hs ++ h.toList ++ hyp.toList) (merge ws u (merge wj uj env)) K := by
            have e1 : eOf cx ops i oi bi (merge wj uj env) = eOf cx ops i oi bi env := by simp only [eOf]; rw [eai, eti]
            rw [e1, ← merge_comm (fun s h1 h2 => d3 s h1 h2)]
            refine evDraw_weak _ (fun p hp => hp) (fun q hq => ?_) hk
            simp only [List.mem_append] at hq ⊢
            rcases hq with (hq | hq) | hq
            · exact .inl (.inl hq)
            · exact .inr hq
            · exact .inl (.inr hq)
          cases pre with
          | none => exact fin
          | some p => exact ⟨hi7.1 p rfl, fin⟩

theorem withMasks_iff : ∀ (os : List Oper) (j : Nat) (acc : List Nat) {k : List Nat → Prop}, withMasks os j acc k ↔ k (maskGo os j acc)
  | [], _, _, _ => Iff.rfl
  | o :: os, j, acc, k => by
    simp only [withMasks, maskGo, forceN_iff]
    exact withMasks_iff os (j + 1) _

theorem maskGo_spec : ∀ (os : List Oper) (j : Nat) (acc : List Nat), acc.length = j → (maskGo os j acc).length = j + os.length ∧ (maskGo os j acc).drop os.length = acc ∧
    ∀ k o, os[k]? = some o → (maskGo os j acc).getD (os.length - 1 - k) 0 = maskOf (j + k) ((maskGo os j acc).drop (os.length - k)) o
  | [], j, acc, h => ⟨by simp [maskGo, h], by simp [maskGo], by simp⟩
  | o :: os, j, acc, h => by
    obtain ⟨h1, h2, h3⟩ := maskGo_spec os (j + 1) (maskOf j acc o :: acc) (by simp [h])
    simp only [maskGo]
    generalize maskGo os (j + 1) (maskOf j acc o :: acc) = r at h1 h2 h3
    have hd : r.drop (os.length + 1) = acc := by
      rw [← List.drop_drop, h2]; rfl
    refine ⟨by simp only [List.length_cons]; omega, by simpa using hd, fun k o' hk => ?_⟩
    cases k with
    | zero =>
      simp at hk
      subst hk
      have : r[os.length]? = some (maskOf j acc o) := by
        have h4 : (r.drop os.length)[0]? = some (maskOf j acc o) := by rw [h2]; rfl
        simpa using h4
      simp only [List.length_cons, Nat.add_sub_cancel, Nat.sub_zero, Nat.add_zero, List.getD_eq_getElem?_getD, this, Option.getD_some, hd]
    | succ k =>
      have hk' : os[k]? = some o' := by simpa using hk
      have hlt := (List.getElem?_eq_some_iff.1 hk').1
      have := h3 k o' hk'
      have e1 : (o :: os).length - 1 - (k + 1) = os.length - 1 - k := by simp only [List.length_cons]; omega
      have e2 : (o :: os).length - (k + 1) = os.length - k := by simp only [List.length_cons]; omega
      rw [e1, e2, this]
      congr 1; omega

theorem maskOf_bit {j : Nat} {acc : List Nat} {o : Oper} {i : Nat} (h : (maskOf j acc o).testBit i = true) : ∃ e ∈ o.after, Region.binds .any e = true ∧ e.on < j ∧ (i = e.on ∨ (acc.getD (j - 1 - e.on) 0).testBit i = true) := by
  have gen : ∀ (l : List Edge) (s : Nat), (l.foldl (fun s e => bif Region.binds .any e && Nat.blt e.on j then s ||| (2 ^ e.on ||| acc.getD (j - 1 - e.on) 0) else s) s).testBit i = true →
      s.testBit i = true ∨ ∃ e ∈ l, Region.binds .any e = true ∧ e.on < j ∧ (i = e.on ∨ (acc.getD (j - 1 - e.on) 0).testBit i = true) := by
    intro l
    induction l with
    | nil => intro s h; exact .inl h
    | cons e l ih =>
      intro s h
      simp only [List.foldl_cons] at h
      rcases ih _ h with h1 | ⟨e', he', h1⟩
      · cases hb : (Region.binds .any e && Nat.blt e.on j) with
        | false => rw [hb] at h1; exact .inl h1
        | true =>
          rw [hb] at h1
          simp only [cond_true, Nat.testBit_or, Bool.or_eq_true, Nat.testBit_two_pow, decide_eq_true_eq] at h1
          simp only [Bool.and_eq_true] at hb
          have hlt : e.on < j := by simpa [Nat.blt_eq] using hb.2
          rcases h1 with h1 | h1 | h1
          · exact .inl h1
          · exact .inr ⟨e, by simp, hb.1, hlt, .inl h1.symm⟩
          · exact .inr ⟨e, by simp, hb.1, hlt, .inr h1⟩
      · exact .inr ⟨e', by simp [he'], h1⟩
  rcases gen _ _ h with h1 | ⟨e, he, h1⟩
  · simp at h1
  · exact ⟨e, Array.mem_toList_iff.1 he, h1⟩

theorem anc_listed {ops : Array Oper} {L : Nat → Prop} (hcl : ∀ k o e, ops[k]? = some o → L k → e ∈ o.after → Region.binds .any e = true → L e.on) (i : Nat) :
    ∀ (j : Nat), j < ops.size → (∀ o e, ops[j]? = some o → e ∈ o.after → Region.binds .any e = true → L e.on) → anc ops.size (maskGo ops.toList 0 []) j i = true → L i := by
  intro j
  induction j using Nat.strongRecOn with
  | _ j ih =>
    intro hj hd ha
    obtain ⟨-, -, h3⟩ := maskGo_spec ops.toList 0 [] rfl
    have ho : ops.toList[j]? = some ops[j] := by simp [hj]
    have h4 := h3 j _ ho
    simp only [Nat.zero_add, Array.length_toList] at h4
    unfold anc at ha
    rw [h4] at ha
    obtain ⟨e, he, hb, hlt, hi⟩ := maskOf_bit ha
    have hL := hd _ e (by simp [hj]) he hb
    rcases hi with rfl | hi
    · exact hL
    · refine ih e.on hlt (by omega) (fun o' e' ho' he' hb' => hcl e.on o' e' ho' hL he' hb') ?_
      unfold anc
      rw [List.getD_eq_getElem?_getD, List.getElem?_drop] at hi
      have e1 : ops.size - j + (j - 1 - e.on) = ops.size - 1 - e.on := by omega
      rw [e1] at hi
      rw [List.getD_eq_getElem?_getD]
      exact hi

theorem topoOk_drop {ops : Array Oper} {j : Nat} {l2 : List Nat} : ∀ (l1 : List Nat), topoOk ops (l1 ++ j :: l2) = true → topoOk ops (l1 ++ l2) = true
  | [], h => by simp only [List.nil_append, topoOk, Bool.and_eq_true] at h; exact h.2
  | i :: l1, h => by
    simp only [List.cons_append, topoOk, Bool.and_eq_true] at h ⊢
    refine ⟨?_, topoOk_drop l1 h.2⟩
    cases ho : ops[i]? with
    | none => rw [ho] at h; simp at h
    | some o =>
      rw [ho] at h
      simp only [List.all_eq_true, Bool.or_eq_true, Bool.not_eq_true', Bool.and_eq_true] at h ⊢
      intro e he
      rcases h.1 e he with h1 | ⟨h1, h2⟩
      · exact .inl h1
      · refine .inr ⟨h1, ?_⟩
        simp at h2 ⊢
        exact ⟨h2.1, h2.2.1, h2.2.2.2⟩

theorem callOk_drop {ops : Array Oper} {am : List Nat} {j : Nat} {l2 : List Nat} : ∀ (l1 : List Nat), callOk ops am (l1 ++ j :: l2) = true → callOk ops am (l1 ++ l2) = true
  | [], h => by simp only [List.nil_append, callOk, Bool.and_eq_true] at h; exact h.2
  | i :: l1, h => by
    simp only [List.cons_append, callOk, Bool.and_eq_true, Bool.or_eq_true, List.all_eq_true] at h ⊢
    refine ⟨h.1.imp id fun h1 k hk => h1 k ?_, callOk_drop l1 h.2⟩
    simp only [List.mem_append, List.mem_cons] at hk ⊢
    rcases hk with hk | hk
    · exact .inl hk
    · exact .inr (.inr hk)

theorem Rel.drawn (h : Rel w env tmps Of Rf) (n : Nat) : Rel { w with drawn := n } env tmps Of Rf := by
  refine h.step (fun _ => False) h.size (fun _ _ => rfl) (fun _ _ => rfl) (fun _ _ => rfl) (fun _ _ => rfl) (fun _ _ _ _ => rfl) (by simp) (by simp) (by simp) (by simp) (by simp) (by simp) (by simp) (by simp)

theorem nodup_mid' {l1 l2 : List Nat} {j : Nat} (h : (l1 ++ j :: l2).Nodup) : (j :: (l1 ++ l2)).Nodup := (List.perm_middle (a := j) (l₁ := l1) (l₂ := l2)).nodup_iff.1 h

theorem pigeon : ∀ (n : Nat) (l : List Nat), l.Nodup → l.length = n → (∀ j ∈ l, j < n) → ∀ j, j < n → j ∈ l := by
  intro n
  induction n with
  | zero => intro l _ _ _ j hj; omega
  | succ n ih =>
    intro l hnd hlen hlt j hj
    by_cases hn : n ∈ l
    · obtain ⟨l1, l2, rfl⟩ := List.append_of_mem hn
      have h1 := nodup_mid' hnd
      rw [List.nodup_cons] at h1
      by_cases e : j = n
      · subst e; exact hn
      · have := ih (l1 ++ l2) h1.2 (by simp at hlen ⊢; omega) (fun k hk => by
          have h2 := hlt k (by simp at hk ⊢; rcases hk with hk | hk <;> simp [hk])
          have : k ≠ n := fun e => h1.1 (e ▸ hk)
          omega) j (by omega)
        simp at this ⊢
        rcases this with h | h <;> simp [h]
    · cases l with
      | nil => simp at hlen
      | cons x l =>
        rw [List.nodup_cons] at hnd
        have hx : ∀ k ∈ x :: l, k < n := fun k hk => by
          have h2 := hlt k hk
          have : k ≠ n := fun e => hn (e ▸ hk)
          omega
        exact absurd (ih l hnd.2 (by simpa using hlen) (fun k hk => hx k (by simp [hk])) x (hx x (by simp))) hnd.1

theorem evDraw_sound {cx : Cx} (hT : TabOk P cx.T) (hS : SigOk P cx.S) {ops : Array Oper} {am : List Nat} {Q : Exit → Go.Act → World → Prop} {K : Env → Prop} {w0 : World} {O0 R0 : List Nat} {t0 : Nat → Value}
    (ham : am = maskGo ops.toList 0 []) (hQ : ∀ w' tmps' env' Of' Rf', Rel w' env' tmps' Of' Rf' → Fr w0 O0 R0 cx.keep t0 w' tmps' Of' Rf' → env'.length = tmps'.size → K env' → Q .normal ⟨tmps', []⟩ w') :
    ∀ (n : Nat) (js : List Nat) {tr : List TrE} {hs : List Prop} {listed : Array Bool} {w : World} {env : Env} {tmps : Array Value} {Of Rf : Nat → List Nat}, js.length = n → js.Nodup →
      (∀ j, j ∈ js ↔ j < ops.size ∧ listed.getD j false = false) → listed.size = ops.size →
      (∀ k o e, ops[k]? = some o → listed.getD k false = true → e ∈ o.after → Region.binds .any e = true → listed.getD e.on false = true) → topoOk ops js = true → callOk ops am js = true → (∀ h ∈ hs, h) →
      Rel w env tmps Of Rf → Fr w0 O0 R0 cx.keep t0 w tmps Of Rf → evDraw cx (CallsT P) ops am js tr hs env K → wpAny P .any ops Q n listed ⟨tmps, []⟩ w := by
  intro n
  induction n with
  | zero =>
    intro js tr hs listed w env tmps Of Rf hn hnd hjs hls hcl htp hco hh h f he
    have : js = [] := List.eq_nil_of_length_eq_zero hn
    subst this
    refine ⟨?_, hQ _ _ _ _ _ h f h.size.symm (by unfold evDraw at he; exact imps_iff.1 he hh)⟩
    cases hr : Region.ready .any ops listed with
    | nil => rfl
    | cons j rs =>
      have hj : j ∈ Region.ready .any ops listed := by rw [hr]; simp
      obtain ⟨h1, o, ho, -⟩ := mem_ready.1 hj
      have hjl : j < ops.size := (Array.getElem?_eq_some_iff.1 ho).1
      have : j ∈ ([] : List Nat) := (hjs j).2 ⟨hjl, by simpa [Array.getD_eq_getD_getElem?, hls, hjl] using h1⟩
      simp at this
  | succ n ih =>
    intro js tr hs listed w env tmps Of Rf hn hnd hjs hls hcl htp hco hh h f he
    refine ⟨fun hr => ?_, fun j hj => ?_⟩
    · -- the first is ready
      cases js with
      | nil => simp at hn
      | cons j js =>
        have hj := (hjs j).1 (by simp)
        simp only [topoOk, Bool.and_eq_true] at htp
        have : j ∈ Region.ready .any ops listed := by
          rw [mem_ready]
          refine ⟨by simpa [Array.getD_eq_getD_getElem?, hls, hj.1] using hj.2, ops[j]'hj.1, by simp [hj.1], fun e hee hb => ?_⟩
          have h1 := htp.1
          have ho : ops[j]? = some (ops[j]'hj.1) := by simp [hj.1]
          rw [ho] at h1
          simp only [List.all_eq_true, Bool.or_eq_true, Bool.not_eq_true', Bool.and_eq_true] at h1
          rcases h1 e (Array.mem_toList_iff.2 hee) with h2 | ⟨h2, h3⟩
          · rw [hb] at h2; cases h2
          · have hlt : e.on < ops.size := by simpa [Nat.blt_eq] using h2
            have hnm : e.on ∉ j :: js := by simpa using h3
            cases hx : listed.getD e.on false with
            | true => rfl
            | false => exact absurd ((hjs _).2 ⟨hlt, hx⟩) hnm
        rw [hr] at this; simp at this
    · obtain ⟨h1, o, ho, hdep⟩ := mem_ready.1 hj
      have hjl : j < ops.size := (Array.getElem?_eq_some_iff.1 ho).1
      have hjf : listed.getD j false = false := by simpa [Array.getD_eq_getD_getElem?, hls, hjl] using h1
      have hjm : j ∈ js := (hjs j).2 ⟨hjl, hjf⟩
      obtain ⟨l1, l2, rfl⟩ := List.append_of_mem hjm
      have hanc : ∀ i ∈ l1, anc ops.size am j i = false := by
        intro i hi
        cases hx : anc ops.size am j i with
        | false => rfl
        | true =>
          rw [ham] at hx
          have := anc_listed (L := fun k => listed.getD k false = true) hcl i j hjl (fun o' e' ho' he' hb' => by rw [ho] at ho'; cases ho'; exact hdep e' he' hb') hx
          have h2 := ((hjs i).1 (by simp [hi])).2
          rw [h2] at this; cases this
      obtain ⟨o', b, ho', hdk, hb, hsub, -, hwp⟩ := evDraw_front l1 he hanc hco
      rw [ho] at ho'
      cases ho'
      have hds := dstOk_spec hdk
      have hrr := rel_restr h (touch ops env o)
      have hrun := gactB_sound (P := P) (Q := Q) (K := fun hyp u => evDraw cx (CallsT P) ops am (l1 ++ l2) tr (hs ++ hyp.toList) (merge (aOf cx ops o b env).ws u env) K) hT hS hrr
        (fun d hd => by rw [restr_len]; exact (hds d hd).1) (b := b) (by
          have := hwp
          unfold aOf at this ⊢
          exact wpActD_imp (fun _ _ hk => hk) this)
      have hws : ∀ s ∈ (gactB cx o b (restr (touch ops env o) env)).ws, s ∈ touch ops env o := by
        have := hsub
        simpa [subL, aOf] using this
      have hjs' : ∀ k, k ∈ l1 ++ l2 ↔ k < ops.size ∧ (listed.setIfInBounds j true).getD k false = false := by
        intro k
        have hk := hjs k
        have hnj : j ∉ l1 ++ l2 := by
          exact (List.nodup_cons.1 (nodup_mid' hnd)).1
        by_cases e : k = j
        · subst e
          constructor
          · intro hh; exact absurd hh hnj
          · rintro ⟨-, hx⟩
            simp [Array.getD_eq_getD_getElem?, hls, hjl] at hx
        · have : k ∈ l1 ++ l2 ↔ k ∈ l1 ++ j :: l2 := by simp [e]
          rw [this, hk]
          simp [Array.getD_eq_getD_getElem?, Array.getElem?_setIfInBounds_ne (Ne.symm e)]
      have hcl' : ∀ k o e, ops[k]? = some o → (listed.setIfInBounds j true).getD k false = true → e ∈ o.after → Region.binds .any e = true → (listed.setIfInBounds j true).getD e.on false = true := by
        intro k o2 e hk hl he hb
        apply getD_set_true
        by_cases ek : k = j
        · subst ek
          rw [ho] at hk; cases hk
          exact hdep e he hb
        · refine hcl k o2 e hk ?_ he hb
          simpa [Array.getD_eq_getD_getElem?, Array.getElem?_setIfInBounds_ne (Ne.symm ek)] using hl
      have hn' : (l1 ++ l2).length = n := by simp at hn ⊢; omega
      have hnd' : (l1 ++ l2).Nodup := (List.nodup_cons.1 (nodup_mid' hnd)).2
      have go : ∀ (t : Array Value) (w' : World), ((∃ tmps0 : Array Value, ∃ v, t = ((⟨tmps, []⟩ : Go.Act).put o.dst v).tmps) ∧ ∃ hyp env' Of' Rf', Stp w (restr (touch ops env o) env) tmps (rF (touch ops env o) env Of) (rF (touch ops env o) env Rf) w' env' t Of' Rf' (gactB cx o b (restr (touch ops env o) env)).ws ∧
          (∀ q, hyp = some q → q) ∧ evDraw cx (CallsT P) ops am (l1 ++ l2) tr (hs ++ hyp.toList) (merge (aOf cx ops o b env).ws env' env) K) → wpAny P .any ops Q n (listed.setIfInBounds j true) ⟨t, []⟩ w' := by
        rintro t w' ⟨⟨-, ht⟩, hyp, env', Of', Rf', st, hq, hK⟩
        have st' := Stp.lift h st hws
        refine ih (l1 ++ l2) (env := merge (aOf cx ops o b env).ws env' env) hn' hnd' hjs' (by simpa using hls) hcl' (topoOk_drop l1 htp) (callOk_drop l1 hco) ?_ st'.rel (f.step h st' ht hds) hK
        intro q hq'
        rcases List.mem_append.1 hq' with hq' | hq'
        · exact hh q hq'
        · cases hyp with
          | none => exact absurd hq' List.not_mem_nil
          | some p => exact hq q (congrArg some (List.mem_singleton.1 hq').symm)
      unfold wpOp
      rw [ho]
      simp only
      rw [gb_wanted h hb]
      cases b with
      | true =>
        simp only [if_true]
        refine .inl (Oper.wp_mono ?_ hrun)
        rintro ⟨t, df⟩ w' ⟨hdf, hx⟩
        have : df = [] := hdf
        subst this
        exact go t w' hx
      | false =>
        simp only [Bool.false_eq_true, if_false]
        have : (⟨tmps, []⟩ : Go.Act).put o.dst undef = ⟨((⟨tmps, []⟩ : Go.Act).put o.dst undef).tmps, []⟩ := by cases o.dst <;> rfl
        rw [this]
        exact go _ _ hrun

/-- A REGION. -/
theorem evRegion_sound {cx : Cx} (hT : TabOk P cx.T) (hS : SigOk P cx.S) (hm : P.follows .mixedOrders = true) {id : Nat} {ops : Array Oper} {draw : Bool} {Q : Exit → Go.Act → World → Prop} {K : Env → Prop} {w0 : World} {O0 R0 : List Nat} {t0 : Nat → Value}
    (hQ : ∀ w' tmps' env' Of' Rf', Rel w' env' tmps' Of' Rf' → Fr w0 O0 R0 cx.keep t0 w' tmps' Of' Rf' → env'.length = tmps'.size → K env' → Q .normal ⟨tmps', []⟩ w')
    (h : Rel w env tmps Of Rf) (f : Fr w0 O0 R0 cx.keep t0 w tmps Of Rf) (he : evRegion cx (CallsT P) ops draw env K) : (Code.region id ops draw).wp P Q ⟨tmps, []⟩ w := by
  unfold evRegion at he
  cases draw with
  | false =>
    simp only [cond_false] at he
    refine wp_region ?_
    have := evSeq_sound hT hS hQ ops.toList 0 (by simp) h f he
    rw [List.range_eq_range']
    simpa using this
  | true =>
    simp only [cond_true] at he
    rw [withMasks_iff] at he
    cases hp : permOk ops (maskGo ops.toList 0 []) (canon ops) with
    | false => rw [hp] at he; exact he.elim
    | true =>
      rw [hp] at he
      simp only [cond_true] at he
      simp only [permOk, Bool.and_eq_true, beq_iff_eq] at hp
      obtain ⟨hnd, hlen, htp, hco⟩ := hp
      have hnd := nodupB_ok hnd
      refine wp_region_any hm ?_
      have hlt : ∀ j ∈ canon ops, j < ops.size := by
        have : ∀ l : List Nat, topoOk ops l = true → ∀ j ∈ l, j < ops.size := by
          intro l
          induction l with
          | nil => intro _ j hj; simp at hj
          | cons i l ih =>
            intro ht j hj
            simp only [topoOk, Bool.and_eq_true] at ht
            rcases List.mem_cons.1 hj with rfl | hj
            · cases ho : ops[j]? with
              | none => rw [ho] at ht; simp at ht
              | some o => exact (Array.getElem?_eq_some_iff.1 ho).1
            · exact ih ht.2 j hj
        exact this _ htp
      have hall : ∀ j, j < ops.size → j ∈ canon ops := by
        exact pigeon ops.size (canon ops) hnd hlen hlt
      refine evDraw_sound hT hS rfl hQ ops.size (canon ops) (tr := []) (hs := []) hlen hnd (fun j => ⟨fun hj => ⟨hlt j hj, ?_⟩, fun hj => hall j hj.1⟩) (by simp) ?_ htp hco (by simp) (h.drawn _) ?_ he
      · simp [Array.getD_eq_getD_getElem?]
        by_cases e : j < ops.size <;> simp [e]
      · intro k o e ho hl
        simp [Array.getD_eq_getD_getElem?] at hl
        by_cases e : k < ops.size <;> simp [e] at hl
      · exact ⟨⟨f.wld.os, f.wld.tape, f.wld.output, f.wld.size⟩, f.blk, f.own, f.rd, f.kp⟩

end
end Go.Vm
