/- Operands of the evaluator Vm mean what the machine reads. Own work; lemmas. No condition. -/
import Derived.Test.YthnkkchlgepdaaaVmG
namespace Go.Vm
open Go.RowKit
set_option linter.unusedVariables false

theorem Rep.ro_of {w : World} {t : Ty} {a : An} {x : t.den} {cs : List Value} {O R : List Nat} (h : Rep w t a x cs O R) (hp : a.plain = true) : O = [] ∧ Rep w t .ro x cs [] R := by
  induction t generalizing a cs O R with
  | int k => cases a <;> simp [An.plain] at hp <;> (obtain ⟨rfl, rfl, h⟩ := h; exact ⟨rfl, rfl, rfl, h⟩)
  | bool => cases a <;> simp [An.plain] at hp <;> (obtain ⟨rfl, rfl, h⟩ := h; exact ⟨rfl, rfl, rfl, h⟩)
  | str => cases a <;> simp [An.plain] at hp <;> (obtain ⟨rfl, rfl, h⟩ := h; exact ⟨rfl, rfl, rfl, h⟩)
  | pair t u iht ihu =>
    obtain ⟨c1, c2, O1, O2, R1, R2, rfl, rfl, rfl, h1, h2⟩ := h
    have hl : a.l.plain = true := by cases a <;> simp_all [An.l, An.plain]
    have hr : a.r.plain = true := by cases a <;> simp_all [An.r, An.plain]
    obtain ⟨rfl, h1'⟩ := iht h1 hl
    obtain ⟨rfl, h2'⟩ := ihu h2 hr
    exact ⟨rfl, c1, c2, [], [], R1, R2, rfl, rfl, rfl, h1', h2'⟩
  | sl e ih =>
    cases a with
    | ro => exact ⟨h.1, rfl, h.2⟩
    | pair a b => exact ⟨h.1, rfl, h.2⟩
    | hole => simp [An.plain] at hp
    | own el b => simp [An.plain] at hp

theorem RepL.single {α : Type} {f : α → List Value → List Nat → List Nat → Prop} {x : α} {cs : List Value} {O R : List Nat} (h : f x cs O R) : RepL f [x] cs O R :=
  ⟨cs, [], O, [], R, [], by simp, by simp, by simp, h, rfl, rfl, rfl⟩
theorem RepL.append {α : Type} {f : α → List Value → List Nat → List Nat → Prop} {xs ys : List α} {cs ds : List Value} {O O' R R' : List Nat} (h : RepL f xs cs O R) (h' : RepL f ys ds O' R') :
    RepL f (xs ++ ys) (cs ++ ds) (O ++ O') (R ++ R') := by
  induction xs generalizing cs O R with
  | nil => obtain ⟨rfl, rfl, rfl⟩ := h; simpa using h'
  | cons x xs ih =>
    obtain ⟨c1, c2, O1, O2, R1, R2, rfl, rfl, rfl, h1, h2⟩ := h
    exact ⟨c1, c2 ++ ds, O1, O2 ++ O', R1, R2 ++ R', by simp, by simp, by simp, h1, ih h2⟩

theorem RepCel.len {w : World} {c : Cel} {cs : List Value} {O R : List Nat} (h : RepCel w c cs O R) : cs.length = 1 ∧ O = [] ∧ ∀ v ∈ cs, v.oneCell' = true := by
  cases c with
  | d t y => exact ⟨by rw [h.2.2.len.1, h.1], h.2.1, h.2.2.len.2⟩
  | ref l => obtain ⟨rfl, rfl, p, n, c, rfl⟩ := h; exact ⟨rfl, rfl, by simp [Value.oneCell']⟩
  | bad => obtain ⟨rfl, rfl, v, rfl, hv⟩ := h; exact ⟨rfl, rfl, by simpa using hv⟩

/-- a struct's value, cell by cell -/
theorem view_ok {w : World} {mk : Nat → Lk} {t : Ty} {a : An} {x : t.den} {cs : List Value} {O R : List Nat} (h : Rep w t a x cs O R) (o : Nat) :
    ∃ R', RepL (RepCel w) (view mk t a x o) cs [] R' ∧ (∀ b ∈ R', b ∈ R) ∧ ∀ (j : Nat) (l : Lk), (view mk t a x o)[j]? = some (Cel.ref l) → l = mk (o + j) := by
  induction t generalizing a cs O R o with
  | int k =>
    cases a with
    | hole => obtain ⟨rfl, rfl, v, rfl, hv⟩ := h; exact ⟨[], .single ⟨rfl, rfl, v, rfl, hv⟩, by simp, by intro j l hj; cases j <;> simp [view] at hj⟩
    | _ => exact ⟨R, .single ⟨rfl, rfl, rfl, h.2⟩, fun b hb => hb, by intro j l hj; cases j <;> simp [view] at hj⟩
  | bool =>
    cases a with
    | hole => obtain ⟨rfl, rfl, v, rfl, hv⟩ := h; exact ⟨[], .single ⟨rfl, rfl, v, rfl, hv⟩, by simp, by intro j l hj; cases j <;> simp [view] at hj⟩
    | _ => exact ⟨R, .single ⟨rfl, rfl, rfl, h.2⟩, fun b hb => hb, by intro j l hj; cases j <;> simp [view] at hj⟩
  | str =>
    cases a with
    | hole => obtain ⟨rfl, rfl, v, rfl, hv⟩ := h; exact ⟨[], .single ⟨rfl, rfl, v, rfl, hv⟩, by simp, by intro j l hj; cases j <;> simp [view] at hj⟩
    | _ => exact ⟨R, .single ⟨rfl, rfl, rfl, h.2⟩, fun b hb => hb, by intro j l hj; cases j <;> simp [view] at hj⟩
  | sl e ih =>
    cases a with
    | hole => obtain ⟨rfl, rfl, v, rfl, hv⟩ := h; exact ⟨[], .single ⟨rfl, rfl, v, rfl, hv⟩, by simp, by intro j l hj; cases j <;> simp [view] at hj⟩
    | own el b =>
      obtain ⟨v, cells, O', rfl, hown, -⟩ := h
      have hv : ∃ p n c, v = .slice p n c := by
        rcases hown.2 with ⟨h1, -⟩ | ⟨g, cap, cur, h1, -⟩
        · exact ⟨_, _, _, h1⟩
        · exact ⟨_, _, _, h1⟩
      obtain ⟨p, n, c, rfl⟩ := hv
      exact ⟨[], .single ⟨rfl, rfl, p, n, c, rfl⟩, by simp, by intro j l hj; cases j <;> simp [view] at hj; simpa using hj.symm⟩
    | ro => exact ⟨R, .single ⟨rfl, rfl, rfl, h.2⟩, fun b hb => hb, by intro j l hj; cases j <;> simp [view] at hj⟩
    | pair a b => exact ⟨R, .single ⟨rfl, rfl, rfl, h.2⟩, fun b hb => hb, by intro j l hj; cases j <;> simp [view] at hj⟩
  | pair t u iht ihu =>
    obtain ⟨c1, c2, O1, O2, R1, R2, rfl, rfl, rfl, h1, h2⟩ := h
    obtain ⟨Ra, ha, ha', hal⟩ := iht h1 o
    obtain ⟨Rb, hb, hb', hbl⟩ := ihu h2 (o + t.sz)
    have hlen : (view mk t a.l x.1 o).length = t.sz := by
      have := (ha.len (n := 1) fun c cs O R hc => ⟨hc.len.1, hc.len.2.2⟩).1
      rw [← h1.len.1, this]; simp
    refine ⟨Ra ++ Rb, ha.append hb, ?_, ?_⟩
    · intro b hb; simp at hb ⊢; rcases hb with hb | hb
      · exact .inl (ha' b hb)
      · exact .inr (hb' b hb)
    · intro j l hj
      simp only [view] at hj
      rw [List.getElem?_append] at hj
      split at hj
      · exact hal j l hj
      · have := hbl _ l hj
        rw [this, hlen]; congr 1; omega

/-- what is seen at a place -/
theorem seen_ok {w : World} {env : Env} {tmps : Array Value} {d : Dat} {cs : List Value} {O R : List Nat} (h : Rep w d.t d.a d.x cs O R) {x : Value} (hp : Packed d.t cs x) {mk : Nat → Lk}
    (hmk : ∀ j v, cs[j]? = some v → (∃ p n c, v = .slice p n c) → RefOk w env tmps (mk j) none v) : ∃ R', SlotOk w env tmps (seen d mk) x [] R' ∧ ∀ b ∈ R', b ∈ R := by
  obtain ⟨t, a, y⟩ := d
  cases t with
  | pair t u =>
    simp only [seen]
    cases hpl : a.plain with
    | true => exact ⟨R, ⟨cs, hp, (Rep.ro_of h hpl).2⟩, fun b hb => hb⟩
    | false =>
      obtain ⟨R', h1, h2, h3⟩ := view_ok (mk := mk) h 0
      have hx : x = .agg cs.toArray := hp
      refine ⟨R', ⟨cs, hx, h1, ?_⟩, h2⟩
      intro j l hj
      have hl := h3 j l hj
      have hlen := (h1.len (n := 1) fun c cs O R hc => ⟨hc.len.1, hc.len.2.2⟩).1
      have hjl : j < cs.length := by
        rw [hlen]
        have := (List.getElem?_eq_some_iff.1 hj).1
        simpa using this
      refine ⟨cs[j], by simp [hjl], ?_⟩
      rw [hl]
      have hsl : ∃ p n c, cs[j] = .slice p n c := by
        obtain ⟨c0, c1, c2, O0, O1, O2, R0, R1, R2, hcs, h0, -, -, hcel, -⟩ := h1.focus (f := RepCel) (n := 1) (w := w) (fun w x c O1 R1 h => h.len.1) (fun w w' x c O1 R1 h ho hr => h.frame hr) hj
        obtain ⟨-, -, p, n, c, rfl⟩ := hcel
        have : cs[j]? = some (.slice p n c) := by
          rw [hcs, List.append_assoc, List.getElem?_append_right (by omega), h0]; simp
        rw [List.getElem?_eq_getElem hjl] at this
        exact ⟨p, n, c, Option.some.inj this⟩
      simpa using hmk j cs[j] (by simp [hjl]) hsl
  | int k =>
    cases a with
    | hole => exact ⟨[], ⟨rfl, rfl⟩, by simp⟩
    | _ => exact ⟨R, ⟨cs, hp, rfl, h.2⟩, fun b hb => hb⟩
  | bool =>
    cases a with
    | hole => exact ⟨[], ⟨rfl, rfl⟩, by simp⟩
    | _ => exact ⟨R, ⟨cs, hp, rfl, h.2⟩, fun b hb => hb⟩
  | str =>
    cases a with
    | hole => exact ⟨[], ⟨rfl, rfl⟩, by simp⟩
    | _ => exact ⟨R, ⟨cs, hp, rfl, h.2⟩, fun b hb => hb⟩
  | sl e =>
    have hc : cs = [x] := hp
    cases a with
    | hole => exact ⟨[], ⟨rfl, rfl⟩, by simp⟩
    | own el b => 
      refine ⟨[], ⟨rfl, rfl, hmk 0 x (by simp [hc]) ?_⟩, by simp⟩
      obtain ⟨v, cells, O', hv, hown, -⟩ := h
      rw [hc] at hv
      simp at hv
      subst hv
      rcases hown.2 with ⟨h1, -⟩ | ⟨g, cap, cur, h1, -⟩
      · exact ⟨_, _, _, h1⟩
      · exact ⟨_, _, _, h1⟩
    | ro => exact ⟨R, ⟨cs, hp, rfl, h.2⟩, fun b hb => hb⟩
    | pair a b => exact ⟨R, ⟨cs, hp, rfl, h.2⟩, fun b hb => hb⟩

/-- A slot's value, as an operand. -/
theorem slotV_ok {w : World} {env : Env} {tmps : Array Value} {Of Rf : Nat → List Nat} (h : Rel w env tmps Of Rf) (s : Nat) :
    ∃ R', SlotOk w env tmps (slotV (get env s) s) (tv tmps s) [] R' ∧ ∀ b ∈ R', b ∈ Rf s := by
  have hs := h.slot s
  unfold slotV
  cases hv : (get env s).v with
  | dat t a y =>
    rw [hv] at hs
    obtain ⟨cs, hp, hr⟩ := hs
    refine seen_ok (d := ⟨t, a, y⟩) hr hp fun j v hj hsl => ⟨Nat.le_refl _, fun _ => ?_⟩
    exact ⟨cs, none, v, by simp only [locOf, hv, obj, hp.unpack hr, loc], hj, hsl, rfl⟩
  | box t a y =>
    rw [hv] at hs
    refine ⟨[], ⟨rfl, rfl, Nat.le_refl _, fun _ => ?_⟩, by simp⟩
    obtain ⟨b, C, el, O', hx, -⟩ := hs
    simp at hx
    exact ⟨_, b, 0, by simp only [locOf, hv, obj, hx, loc]; rfl, hx⟩
  | fnv f ds => exact ⟨[], ⟨rfl, rfl, Nat.le_refl _, fun _ => rfl⟩, by simp⟩
  | tup ds => exact ⟨[], ⟨rfl, rfl⟩, by simp⟩
  | ptr l => rw [hv] at hs; exact ⟨[], ⟨rfl, rfl, hs.2.2⟩, by simp⟩
  | ref l cut => rw [hv] at hs; exact ⟨[], ⟨rfl, rfl, hs.2.2⟩, by simp⟩
  | agg cs =>
    rw [hv] at hs
    obtain ⟨vs, hx, hl, hj⟩ := hs
    have : Of s = [] := by
      have hne : ∀ b, b ∉ Of s := by
        intro b hb
        obtain ⟨c, _, k, O1, R1, hc, hb'⟩ := hl.mem (b := b) (.inl hb)
        have := hc.len.2.1; subst this
        simp at hb'
        exact h.unread s s b hb (by
          clear hj
          revert hb
          intro hb
          exact absurd hb (by
            -- no cell owns anything
            have : ∀ (cs : List Cel) (vs : List Value) (O R : List Nat), RepL (RepCel w) cs vs O R → O = [] := by
              intro cs
              induction cs with
              | nil => intro vs O R h; exact h.2.1
              | cons c cs ih => intro vs O R h; obtain ⟨c1, c2, O1, O2, R1, R2, rfl, rfl, rfl, h1, h2⟩ := h; rw [h1.len.2.1, ih _ _ _ h2]; rfl
            rw [this _ _ _ _ hl]; simp))
      exact List.eq_nil_iff_forall_not_mem.2 hne
    rw [this] at hl
    exact ⟨Rf s, ⟨vs, hx, hl, hj⟩, fun b hb => hb⟩
  | nil => rw [hv] at hs; exact ⟨[], ⟨rfl, rfl, hs.2.2⟩, by simp⟩
  | fnc f ls => rw [hv] at hs; exact ⟨[], ⟨rfl, rfl, hs.2.2⟩, by simp⟩
  | fnl s' t => rw [hv] at hs; exact ⟨[], ⟨rfl, rfl, hs.2.2⟩, by simp⟩
  | rop t y off => rw [hv] at hs; obtain ⟨ho, hr⟩ := hs; exact ⟨Rf s, ⟨rfl, hr⟩, fun b hb => hb⟩
  | dead => exact ⟨[], ⟨rfl, rfl⟩, by simp⟩

/-- AN OPERAND. -/
theorem opnd_ok {w : World} {env : Env} {tmps : Array Value} {Of Rf : Nat → List Nat} (h : Rel w env tmps Of Rf) (x : Operand) :
    ∃ R', SlotOk w env tmps (opnd env x) (Go.Act.eval ⟨tmps, []⟩ x) [] R' ∧ ∀ b ∈ R', ∃ s, b ∈ Rf s := by
  cases x with
  | tmp s =>
    obtain ⟨R', h1, h2⟩ := slotV_ok h s
    exact ⟨R', h1, fun b hb => ⟨s, h2 b hb⟩⟩
  | const c =>
    refine ⟨[], ?_, by simp⟩
    simp only [opnd, Go.Act.eval]
    cases c with
    | int k n =>
      simp only [constV]
      cases hc : (decide (k.min ≤ n) && decide (n ≤ k.max)) with
      | true => simp at hc; exact ⟨[.int k n], rfl, rfl, rfl, rfl, hc⟩
      | false => exact ⟨rfl, rfl⟩
    | bool b => exact ⟨[.bool b], rfl, rfl, rfl, rfl⟩
    | string s =>
      simp only [constV]
      cases hc : Nat.ble s.size maxEl with
      | true => exact ⟨[.string s], rfl, rfl, rfl, rfl, by simpa [Nat.ble_eq] using hc⟩
      | false => exact ⟨rfl, rfl⟩
    | slice p len cap =>
      simp only [constV]
      split
      · rename_i h; cases h
      · rename_i h; cases h
      · rename_i h; cases h
      · rename_i h; simp at h; obtain ⟨rfl, rfl, rfl⟩ := h; exact ⟨rfl, rfl, rfl⟩
      · exact ⟨rfl, rfl⟩
    | _ => exact ⟨rfl, rfl⟩
  | func f => exact ⟨[], ⟨rfl, rfl, [], rfl, rfl, by simp⟩, by simp⟩
  | global g => exact ⟨[], ⟨rfl, rfl⟩, by simp⟩

end Go.Vm
