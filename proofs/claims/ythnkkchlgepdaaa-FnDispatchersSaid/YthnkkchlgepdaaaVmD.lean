/- How a frame's knowledge turns with a step, for the evaluator Vm. Own work; lemmas. No condition. -/
import Derived.Test.YthnkkchlgepdaaaVmC
namespace Go.Vm
open Go.RowKit

theorem get_set (env : Env) (d s : Nat) (sl : Slot) (hd : d < env.length) : get (env.set d sl) s = if s = d then sl else get env s := by
  unfold get
  simp only [List.getD_eq_getElem?_getD, List.getElem?_set]
  by_cases h : d = s
  · subst h; simp [hd]
  · simp [h, Ne.symm h]

theorem tmps_set (tmps : Array Value) (d s : Nat) (v : Value) (hd : d < tmps.size) : tv (tmps.setIfInBounds d v) s = if s = d then v else tv tmps s := by
  simp only [tv, Array.getD_eq_getD_getElem?, Array.getElem?_setIfInBounds]
  by_cases h : d = s
  · subst h; simp [hd]
  · simp [h, Ne.symm h]

theorem RepL.frame {α : Type} {f : World → α → List Value → List Nat → List Nat → Prop} {w w' : World} {xs : List α} {cs : List Value} {O R : List Nat}
    (h : RepL (f w) xs cs O R) (hf : ∀ x c O1 R1, f w x c O1 R1 → (∀ b ∈ O1, w'.heap[b]? = w.heap[b]?) → (∀ b ∈ R1, w'.heap[b]? = w.heap[b]?) → f w' x c O1 R1)
    (hO : ∀ b ∈ O, w'.heap[b]? = w.heap[b]?) (hR : ∀ b ∈ R, w'.heap[b]? = w.heap[b]?) : RepL (f w') xs cs O R :=
  h.imp fun x _ c O1 R1 ho hr hx => hf x c O1 R1 hx (fun b hb => hO b (ho b hb)) (fun b hb => hR b (hr b hb))

theorem RepBox.frame {w w' : World} {d : Dat} {c : List Value} {O R : List Nat} (h : RepBox w d c O R)
    (hO : ∀ b ∈ O, w'.heap[b]? = w.heap[b]?) (hR : ∀ b ∈ R, w'.heap[b]? = w.heap[b]?) : RepBox w' d c O R := by
  obtain ⟨b, C, el, O', rfl, hb, hr, rfl⟩ := h
  exact ⟨b, C, el, O', rfl, by rw [hO b (by simp)]; exact hb, hr.frame (fun x hx => hO x (by simp [hx])) hR, rfl⟩
theorem RepOne.frame {w w' : World} {d : Dat} {c : List Value} {O R : List Nat} (h : RepOne w d c O R)
    (hO : ∀ b ∈ O, w'.heap[b]? = w.heap[b]?) (hR : ∀ b ∈ R, w'.heap[b]? = w.heap[b]?) : RepOne w' d c O R := by
  obtain ⟨x, cs, rfl, hp, hr⟩ := h
  exact ⟨x, cs, rfl, hp, hr.frame hO hR⟩
theorem RepCel.frame {w w' : World} {d : Cel} {c : List Value} {O R : List Nat} (h : RepCel w d c O R)
    (hR : ∀ b ∈ R, w'.heap[b]? = w.heap[b]?) : RepCel w' d c O R := by
  cases d with
  | d t y => exact ⟨h.1, h.2.1, h.2.2.frame (by simp) hR⟩
  | ref l => exact h
  | bad => exact h

/-- A slot's knowledge is carried over: its blocks have not turned, and the links it holds still hold. -/
theorem SlotOk.imp {w w' : World} {env env' : Env} {tmps tmps' : Array Value} {v : V} {x : Value} {O R : List Nat} (h : SlotOk w env tmps v x O R)
    (hO : ∀ b ∈ O, w'.heap[b]? = w.heap[b]?) (hR : ∀ b ∈ R, w'.heap[b]? = w.heap[b]?)
    (hp : ∀ l x, PtrOk w env tmps l x → PtrOk w' env' tmps' l x) (hr : ∀ l cut x, RefOk w env tmps l cut x → RefOk w' env' tmps' l cut x)
    (hn : ∀ s t x, FnlOk env tmps s t x → FnlOk env' tmps' s t x) :
    SlotOk w' env' tmps' v x O R := by
  cases v with
  | dat t a y => obtain ⟨cs, hk, hc⟩ := h; exact ⟨cs, hk, hc.frame hO hR⟩
  | box t a y => exact RepBox.frame h hO hR
  | ptr l => exact ⟨h.1, h.2.1, hp _ _ h.2.2⟩
  | ref l cut => exact ⟨h.1, h.2.1, hr _ _ _ h.2.2⟩
  | agg cs =>
    obtain ⟨vs, rfl, hl, hj⟩ := h
    refine ⟨vs, rfl, ?_, fun j l e => ?_⟩
    · exact hl.imp fun c _ k O1 R1 ho hr' hc => hc.frame (fun b hb => hR b (hr' b hb))
    · obtain ⟨v, e', h'⟩ := hj j l e; exact ⟨v, e', hr _ _ _ h'⟩
  | tup ds => obtain ⟨vs, rfl, hl⟩ := h; exact ⟨vs, rfl, hl.frame (fun x c O1 R1 hx ho hr' => hx.frame ho hr') hO hR⟩
  | nil => exact h
  | fnc f caps =>
    obtain ⟨h1, h2, vs, rfl, hl, hj⟩ := h
    exact ⟨h1, h2, vs, rfl, hl, fun j l e => let ⟨v, e', h'⟩ := hj j l e; ⟨v, e', hp _ _ h'⟩⟩
  | fnv f ds => obtain ⟨vs, rfl, hl⟩ := h; exact ⟨vs, rfl, hl.frame (fun x c O1 R1 hx ho hr' => hx.frame ho hr') hO hR⟩
  | fnl s t => exact ⟨h.1, h.2.1, hn s t x h.2.2⟩
  | rop t y off =>
    obtain ⟨rfl, b, k, cells, R', rfl, hc, hu, rfl⟩ := h
    refine ⟨rfl, b, k, cells, R', rfl, hc.frame (by simp) (fun x hx => hR x (by simp [hx])), fun j u hj => ?_, rfl⟩
    rw [World.cell?_of_block (w := w) (hR b (by simp))]
    exact hu j u hj
  | dead => exact h

theorem Packed.unpack {w : World} {t : Ty} {a : An} {x : t.den} {cs : List Value} {O R : List Nat} {v : Value} (hp : Packed t cs v) (h : Rep w t a x cs O R) : unpack v = cs := by
  cases t with
  | pair t u => cases hp; simp [Vm.unpack]
  | int k | bool | str | sl e =>
    have h1 := h.len.2 v (by rw [show cs = [v] from hp]; simp)
    rw [show cs = [v] from hp]
    cases v <;> first | rfl | simp [Value.oneCell'] at h1

theorem cellsAt_all {w : World} {b : Nat} {C : Array Value} {el : TypeId} {fz : Nat × Nat} {n : Nat} (h : w.heap[b]? = some (.cells C el fz)) (hn : C.toList.length = n) :
    cellsAt w b 0 n = C.toList := by
  simp only [cellsAt, h, List.drop_zero]
  rw [← hn, List.take_length]

/-- The object of a slot: its data, its cells, where they lie. -/
theorem SlotOk.obj {w : World} {env : Env} {tmps : Array Value} {v : V} {x : Value} {O R : List Nat} (h : SlotOk w env tmps v x O R) {d : Dat} {cs : List Value} {bk : Option (Nat × Nat)}
    (ho : Vm.obj w v x = some (d, cs, bk)) : ∃ O1, Rep w d.t d.a d.x cs O1 R ∧ ∀ b ∈ O1, b ∈ O := by
  cases v with
  | dat t a y =>
    obtain ⟨cs', hk, hc⟩ := h
    cases x <;> simp [Vm.obj] at ho <;> (obtain ⟨rfl, rfl, rfl⟩ := ho; rw [hk.unpack hc]; exact ⟨O, hc, fun b hb => hb⟩)
  | box t a y =>
    obtain ⟨b, C, el, O', hx, hb, hc, rfl⟩ := h
    simp at hx
    subst hx
    simp [Vm.obj] at ho
    obtain ⟨rfl, rfl, rfl⟩ := ho
    rw [cellsAt_all hb hc.len.1]
    exact ⟨O', hc, fun b hb => by simp [hb]⟩
  | _ => simp [Vm.obj] at ho

/-- the object of a slot reads the same where its blocks have not turned -/
theorem obj_frame {w w' : World} {env : Env} {tmps : Array Value} {v : V} {x : Value} {O R : List Nat} (h : SlotOk w env tmps v x O R)
    (hO : ∀ b ∈ O, w'.heap[b]? = w.heap[b]?) : Vm.obj w' v x = Vm.obj w v x := by
  cases v with
  | box t a y =>
    obtain ⟨b, C, el, O', hx, hb, hc, rfl⟩ := h
    simp at hx
    subst hx
    simp only [Vm.obj]
    rw [cellsAt_congr (hO b (by simp))]
  | _ => rfl

theorem locOf_frame {w w' : World} {env env' : Env} {tmps tmps' : Array Value} {Of Rf : Nat → List Nat} (h : Rel w env tmps Of Rf) {l : Lk}
    (he : get env' l.s = get env l.s) (ht : tv tmps' l.s = tv tmps l.s) (hO : ∀ b ∈ Of l.s, w'.heap[b]? = w.heap[b]?) :
    locOf w' env' tmps' l = locOf w env tmps l := by
  have hs := h.slot l.s
  unfold locOf
  rw [he, ht, obj_frame hs hO]
  cases ho : Vm.obj w (get env l.s).v (tv tmps l.s) with
  | none => rfl
  | some p =>
    obtain ⟨d, cs, bk⟩ := p
    obtain ⟨O1, hr, hsub⟩ := hs.obj ho
    simp only
    exact loc_frame hr (fun b hb => hO b (hsub b hb)) l.st

theorem freshP_congr {env env' : Env} {l : Lk} (he : get env' l.s = get env l.s) : freshP env' l = freshP env l := by simp [freshP, he]
theorem freshR_congr {env env' : Env} {l : Lk} (he : get env' l.s = get env l.s) : freshR env' l = freshR env l := by simp [freshR, he]

/-- THE STEP: outside a set S of slots nothing has turned; what is in S is shown anew. -/
theorem Rel.step {w w' : World} {env env' : Env} {tmps tmps' : Array Value} {Of Rf Of' Rf' : Nat → List Nat} (h : Rel w env tmps Of Rf) (S : Nat → Prop)
    (hsize : tmps'.size = env'.length)
    (he : ∀ s, ¬ S s → get env' s = get env s) (ht : ∀ s, ¬ S s → tv tmps' s = tv tmps s)
    (hO : ∀ s, ¬ S s → Of' s = Of s) (hR : ∀ s, ¬ S s → Rf' s = Rf s)
    (hw : ∀ s, ¬ S s → ∀ b, b ∈ Of s ∨ b ∈ Rf s → w'.heap[b]? = w.heap[b]?)
    (hp : ∀ l x, S l.s → PtrOk w env tmps l x → PtrOk w' env' tmps' l x)
    (hr : ∀ l cut x, S l.s → RefOk w env tmps l cut x → RefOk w' env' tmps' l cut x)
    (hn : ∀ s t x, S s → FnlOk env tmps s t x → FnlOk env' tmps' s t x)
    (hslot : ∀ s, S s → SlotOk w' env' tmps' (get env' s).v (tv tmps' s) (Of' s) (Rf' s))
    (h1 : ∀ s, S s → (Of' s).Nodup) (h2 : ∀ s s' b, S s → s ≠ s' → b ∈ Of' s → b ∉ Of' s')
    (h3 : ∀ s s' b, S s → b ∈ Of' s → b ∉ Rf' s') (h4 : ∀ s s' b, S s' → b ∈ Of' s → b ∉ Rf' s') : Rel w' env' tmps' Of' Rf' := by
  refine ⟨hsize, fun s => ?_, fun s => ?_, fun s s' b hss hb => ?_, fun s s' b hb => ?_⟩
  · by_cases hs : S s
    · exact hslot s hs
    · rw [he s hs, ht s hs, hO s hs, hR s hs]
      refine (h.slot s).imp (fun b hb => hw s hs b (.inl hb)) (fun b hb => hw s hs b (.inr hb)) ?_ ?_ ?_
      · intro l x hl
        by_cases hls : S l.s
        · exact hp l x hls hl
        · refine ⟨by rw [he _ hls]; exact hl.1, fun hf => ?_⟩
          rw [freshP_congr (he _ hls)] at hf
          obtain ⟨cs, b, k, hloc, hx⟩ := hl.2 hf
          exact ⟨cs, b, k, by rw [locOf_frame h (he _ hls) (ht _ hls) (fun b hb => hw _ hls b (.inl hb))]; exact hloc, hx⟩
      · intro l cut x hl
        by_cases hls : S l.s
        · exact hr l cut x hls hl
        · refine ⟨by rw [he _ hls]; exact hl.1, fun hf => ?_⟩
          rw [freshR_congr (he _ hls)] at hf
          obtain ⟨cs, bk, hd, hloc, hx⟩ := hl.2 hf
          exact ⟨cs, bk, hd, by rw [locOf_frame h (he _ hls) (ht _ hls) (fun b hb => hw _ hls b (.inl hb))]; exact hloc, hx⟩
      · intro s' t x hx
        by_cases hs' : S s'
        · exact hn s' t x hs' hx
        · unfold FnlOk; rw [he s' hs', ht s' hs']; exact hx
  · by_cases hs : S s
    · exact h1 s hs
    · rw [hO s hs]; exact h.nodup s
  · by_cases hs : S s
    · exact h2 s s' b hs hss hb
    · by_cases hs' : S s'
      · exact fun hb' => h2 s' s b hs' (Ne.symm hss) hb' hb
      · rw [hO s hs] at hb; rw [hO s' hs']; exact h.apart s s' b hss hb
  · by_cases hs : S s
    · exact h3 s s' b hs hb
    · by_cases hs' : S s'
      · exact h4 s s' b hs' hb
      · rw [hO s hs] at hb; rw [hR s' hs']; exact h.unread s s' b hb

end Go.Vm
