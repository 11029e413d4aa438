/- Functions. -/
import Derived.Test.YtpncophaaedjpaaXCode2
import Derived.Laws.Sem
namespace Go.Fx
variable {P : Program} {cx : Cx} {ty : Nat → Option TI}

/-! ### views of what is no part -/
structure ViewsE (ι ι' : Nat → Pl) (hp hp' : List Ob) (w : World) : Prop where
  v : Views ι ι' hp hp' w
  e : ∀ id, hp.length ≤ id → id < hp'.length → ι' id = .empty

theorem ViewsE.refl {hp : List Ob} {ι : Nat → Pl} {w : World} (h : HR ι hp w) : ViewsE ι ι hp hp w := ⟨Views.refl h, fun id h1 h2 => by omega⟩

theorem Views.len {hp hp' : List Ob} {ι ι' : Nat → Pl} {w : World} (h : Views ι ι' hp hp' w) : hp.length ≤ hp'.length := by
  obtain ⟨⟨vs, rfl⟩, _, _⟩ := h; simp

theorem ViewsE.trans {ι ι' ι'' : Nat → Pl} {hp hp' hp'' : List Ob} {w : World} (h : ViewsE ι ι' hp hp' w) (k : ViewsE ι' ι'' hp' hp'' w) : ViewsE ι ι'' hp hp'' w := by
  refine ⟨h.v.trans k.v, fun id h1 h2 => ?_⟩
  rcases Nat.lt_or_ge id hp'.length with hl | hl
  · rw [k.v.agree id hl]; exact h.e id h1 hl
  · exact k.e id hl h2

theorem viewA_E {hp : List Ob} {ι : Nat → Pl} {w : World} {lk : Option (List K)} {a a' : A} {hp' : List Ob} {c : Value} (hv : viewA hp lk a = (a', hp')) (hn : isSub a = false) (h : HR ι hp w) (ha : AR ι (shp hp) a c) :
    ∃ ι', ViewsE ι ι' hp hp' w ∧ AR ι' (shp hp') a' c := by
  unfold viewA at hv
  split at hv
  · cases lk with
    | none => simp at hv; obtain ⟨rfl, rfl⟩ := hv; exact ⟨ι, ViewsE.refl h, ha⟩
    | some ks =>
      simp at hv
      obtain ⟨rfl, rfl⟩ := hv
      obtain ⟨ι', h1, h2⟩ := Views.one h ⟨true, .rows ks []⟩ .empty (fun ι' _ hon => .inl ⟨hon, rfl⟩)
      obtain ⟨ad, rfl⟩ := ha
      refine ⟨ι', ⟨h1, fun id g1 g2 => ?_⟩, ks, 0, by rw [shp_new]; rfl, .inl ⟨h2, rfl, ad, rfl⟩⟩
      have : id = hp.length := by simp at g2; omega
      subst this
      exact h2
  · simp [isSub] at hn
  · simp at hv
    obtain ⟨rfl, rfl⟩ := hv
    exact ⟨ι, ViewsE.refl h, ha⟩

theorem viewAs_E {w : World} : ∀ {lks : List (Option (List K))} {as as' : List A} {hp hp' : List Ob} {ι : Nat → Pl} {cs : List Value}, viewAs hp lks as = (as', hp') → (∀ a ∈ as, isSub a = false) → HR ι hp w → F2 (AR ι (shp hp)) as cs →
    ∃ ι', ViewsE ι ι' hp hp' w ∧ F2 (AR ι' (shp hp')) as' cs := by
  have step : ∀ {lk : Option (List K)} {a a' : A} {as as' : List A} {hp hp1 hp' : List Ob} {ι : Nat → Pl} {c : Value} {cs : List Value}, viewA hp lk a = (a', hp1) → isSub a = false → HR ι hp w → AR ι (shp hp) a c → F2 (AR ι (shp hp)) as cs →
      (∀ ι1, HR ι1 hp1 w → F2 (AR ι1 (shp hp1)) as cs → ∃ ι', ViewsE ι1 ι' hp1 hp' w ∧ F2 (AR ι' (shp hp')) as' cs) →
      ∃ ι', ViewsE ι ι' hp hp' w ∧ F2 (AR ι' (shp hp')) (a' :: as') (c :: cs) := by
    intro lk a a' as as' hp hp1 hp' ι c cs hv hn h ha has ih
    obtain ⟨ι1, v1, h1⟩ := viewA_E hv hn h ha
    obtain ⟨ι2, v2, h2⟩ := ih ι1 v1.v.heap (has.imp fun _ _ h => h.ext v1.v.ext)
    exact ⟨ι2, v1.trans v2, h1.ext v2.v.ext, h2⟩
  intro lks as
  induction as generalizing lks with
  | nil =>
    intro as' hp hp' ι cs hv _ h hF
    have : viewAs hp lks [] = ([], hp) := by cases lks <;> rfl
    rw [this] at hv
    cases hv
    match cs, hF with
    | [], _ => exact ⟨ι, ViewsE.refl h, trivial⟩
    | _ :: _, hF => exact hF.elim
  | cons a as ih =>
    intro as' hp hp' ι cs hv hn h hF
    match cs, hF with
    | [], hF => exact hF.elim
    | c :: cs, ⟨ha, has⟩ =>
      cases lks with
      | nil =>
        simp only [viewAs] at hv
        generalize h1 : viewA hp none a = q at hv
        obtain ⟨a1, hp1⟩ := q
        simp only at hv
        generalize h2 : viewAs hp1 [] as = q at hv
        obtain ⟨as1, hp2⟩ := q
        simp only [Prod.mk.injEq] at hv
        obtain ⟨rfl, rfl⟩ := hv
        exact step h1 (hn a (by simp)) h ha has fun ι1 g1 g2 => ih h2 (fun b hb => hn b (by simp [hb])) g1 g2
      | cons lk lks =>
        simp only [viewAs] at hv
        generalize h1 : viewA hp lk a = q at hv
        obtain ⟨a1, hp1⟩ := q
        simp only at hv
        generalize h2 : viewAs hp1 lks as = q at hv
        obtain ⟨as1, hp2⟩ := q
        simp only [Prod.mk.injEq] at hv
        obtain ⟨rfl, rfl⟩ := hv
        exact step h1 (hn a (by simp)) h ha has fun ι1 g1 g2 => ih h2 (fun b hb => hn b (by simp [hb])) g1 g2

theorem viewV_E {hp : List Ob} {w : World} {t : Nat} {v v' : V} {hp' : List Ob} {ι : Nat → Pl} {c : Value} {vs : List V} (hv : viewV ty hp t v = (v', hp')) (hn : anySub (v :: vs) = false) (h : HR ι hp w) (hr : VR ι (shp hp) v c) :
    (∃ ι', ViewsE ι ι' hp hp' w ∧ VR ι' (shp hp') v' c) ∧ anySub vs = false := by
  cases v with
  | «at» a =>
    simp only [anySub, Bool.or_eq_false_iff] at hn
    refine ⟨?_, hn.2⟩
    simp only [viewV] at hv
    generalize h2 : viewAs hp (lksOf ty t) [a] = q at hv
    obtain ⟨as1, hp2⟩ := q
    obtain ⟨ι', v1, v2⟩ := viewAs_E h2 (by simpa using hn.1) h (cs := [c]) ⟨hr, trivial⟩
    match as1, v2 with
    | [a1], ⟨v2, _⟩ =>
      simp only [Prod.mk.injEq] at hv
      obtain ⟨rfl, rfl⟩ := hv
      exact ⟨ι', v1, v2⟩
    | [], v2 => exact v2.elim
    | _ :: _ :: _, ⟨_, v2⟩ => exact v2.elim
  | agg as =>
    simp only [anySub, Bool.or_eq_false_iff] at hn
    refine ⟨?_, hn.2⟩
    simp only [viewV] at hv
    generalize h2 : viewAs hp (lksOf ty t) as = q at hv
    obtain ⟨as1, hp2⟩ := q
    simp only [Prod.mk.injEq] at hv
    obtain ⟨rfl, rfl⟩ := hv
    obtain ⟨cs, rfl, hF⟩ := hr
    obtain ⟨ι', v1, v2⟩ := viewAs_E h2 (by simpa using hn.1) h hF
    exact ⟨ι', v1, cs, rfl, v2⟩
  | tup xs =>
    simp only [anySub] at hn
    refine ⟨?_, hn⟩
    simp only [viewV, Prod.mk.injEq] at hv
    obtain ⟨rfl, rfl⟩ := hv
    exact ⟨ι, ViewsE.refl h, hr⟩

theorem viewVs_E {w : World} : ∀ {ts : List Nat} {vs vs' : List V} {hp hp' : List Ob} {ι : Nat → Pl} {cs : List Value}, viewVs ty hp ts vs = (vs', hp') → anySub vs = false → HR ι hp w → F2 (VR ι (shp hp)) vs cs →
    ∃ ι', ViewsE ι ι' hp hp' w ∧ F2 (VR ι' (shp hp')) vs' cs := by
  intro ts vs
  induction vs generalizing ts with
  | nil =>
    intro vs' hp hp' ι cs hv _ h hF
    have : viewVs ty hp ts [] = ([], hp) := by cases ts <;> rfl
    rw [this] at hv
    cases hv
    match cs, hF with
    | [], _ => exact ⟨ι, ViewsE.refl h, trivial⟩
    | _ :: _, hF => exact hF.elim
  | cons v vs ih =>
    intro vs' hp hp' ι cs hv hn h hF
    match cs, hF with
    | [], hF => exact hF.elim
    | c :: cs, ⟨ha, has⟩ =>
      have hn2 : anySub vs = false := by cases v <;> simp [anySub] at hn <;> simp [hn]
      cases ts with
      | nil =>
        simp only [viewVs] at hv
        generalize h2 : viewVs ty hp [] vs = q at hv
        obtain ⟨vs1, hp2⟩ := q
        simp only [Prod.mk.injEq] at hv
        obtain ⟨rfl, rfl⟩ := hv
        obtain ⟨ι', v1, v2⟩ := ih h2 hn2 h has
        exact ⟨ι', v1, VR.ext v1.v.ext ha, v2⟩
      | cons t ts =>
        simp only [viewVs] at hv
        generalize h1 : viewV ty hp t v = q at hv
        obtain ⟨a1, hp1⟩ := q
        simp only at hv
        generalize h2 : viewVs ty hp1 ts vs = q at hv
        obtain ⟨vs1, hp2⟩ := q
        simp only [Prod.mk.injEq] at hv
        obtain ⟨rfl, rfl⟩ := hv
        obtain ⟨⟨ι1, v1, v2⟩, _⟩ := viewV_E h1 hn h ha
        obtain ⟨ι2, w1, w2⟩ := ih h2 hn2 v1.v.heap (has.imp fun _ _ h => VR.ext v1.v.ext h)
        exact ⟨ι2, v1.trans w1, VR.ext w1.v.ext v2, w2⟩

/-- What came to be seen belongs to the state. -/
theorem RelH.views {g : Beg} {ι ι' : Nat → Pl} {hp hp' : List Ob} {w : World} (h : RelH g ι hp w) (hv : ViewsE ι ι' hp hp' w) : RelH g ι' hp' w := by
  obtain ⟨⟨⟨vs, rfl⟩, hag, hh⟩, hem⟩ := hv
  have hlen := h.len
  simp only at hlen
  have hon : ∀ (id : Nat) (ob : Ob) (b base room : Nat), (hp ++ vs)[id]? = some ob → ι' id = .on b base room → id < hp.length ∧ hp[id]? = some ob ∧ ι id = .on b base room := by
    intro id ob b base room ho hon
    rcases Nat.lt_or_ge id hp.length with hl | hl
    · rw [List.getElem?_append_left hl] at ho
      exact ⟨hl, ho, by rw [← hag id hl]; exact hon⟩
    · have hlt := (List.getElem?_eq_some_iff.1 ho).1
      rw [hem id hl hlt] at hon; cases hon
  refine ⟨trivial, rfl, hh, ?_, fun id hid => ?_, fun id ob ho => ?_, h.os, h.tape, h.output, h.size, h.block, ?_⟩
  · intro i j oi oj b base room b' base' room' hi hj hij hown hli hlj h1 h2
    obtain ⟨_, a2, a3⟩ := hon i oi b base room hi h1
    obtain ⟨_, c2, c3⟩ := hon j oj b' base' room' hj h2
    exact h.inj i j oi oj b base room b' base' room' a2 c2 hij hown hli hlj a3 c3
  · rw [hag id (by omega)]; exact h.keep id hid
  · obtain ⟨ob', h1, h2⟩ := h.flag id ob ho
    simp only at h1
    have hl := (List.getElem?_eq_some_iff.1 h1).1
    exact ⟨ob', by simp only; rw [List.getElem?_append_left hl]; exact h1, h2⟩
  · intro id ob b base room hid ho hl h1
    obtain ⟨_, a2, a3⟩ := hon id ob b base room ho h1
    exact h.fresh id ob b base room hid a2 hl a3

/-! ### results -/
theorem run_mapM {β γ : Type} {f : β → Sem γ} {R : β → γ → Prop} {w : World} {as : Array β} (h : ∀ x ∈ as, ∃ c, (f x).run P w = .ok c w ∧ R x c) : ∃ cs, (as.mapM f).run P w = .ok cs w ∧ F2 R as.toList cs.toList := by
  have key : ∀ l : List β, (∀ x ∈ l, ∃ c, (f x).run P w = .ok c w ∧ R x c) → ∃ cs, (l.mapM f).run P w = .ok cs w ∧ F2 R l cs := by
    intro l
    induction l with
    | nil => intro _; exact ⟨[], rfl, trivial⟩
    | cons x l ih =>
      intro h
      obtain ⟨c, h1, h2⟩ := h x (by simp)
      obtain ⟨cs, g1, g2⟩ := ih fun y hy => h y (by simp [hy])
      exact ⟨c :: cs, by rw [List.mapM_cons]; simp only [Sem.run_bind, h1, Result.andThen_ok, g1, Sem.run_pure], h2, g2⟩
  obtain ⟨cs, h1, h2⟩ := key as.toList (by simpa using h)
  refine ⟨cs.toArray, ?_, by simpa using h2⟩
  rw [Array.mapM_eq_mapM_toList, map_eq_pure_bind]
  simp only [Sem.run_bind, h1, Result.andThen_ok, Sem.run_pure]

/-- What a result variable holds. -/
theorem resV_sound {ι : Nat → Pl} {w : World} {a : Act} {st : St} (hT : TyOK P ty) (hs : F2 (VR ι (shp st.hp)) st.sl a.tmps.toList) (hh : HR ι st.hp w) : ∀ (rs : List ResultVar) (vs : List V), resV ty st rs = some vs →
    F2 (fun (x : ResultVar) (v : V) => ∃ c, ((match x with | .tmp t => pure (a.tmps.getD t undef) | .cell b t => do loadVar t (← asAddr (a.tmps.getD b undef))) : Sem Value).run P w = .ok c w ∧ VR ι (shp st.hp) v c) rs vs := by
  intro rs
  induction rs with
  | nil => intro vs h; simp [resV] at h; subst h; trivial
  | cons x rs ih =>
    intro vs h
    cases x with
    | tmp t =>
      simp only [resV] at h
      split at h
      · rename_i vs' hvs
        simp only [Option.some.injEq] at h
        subst h
        exact ⟨⟨_, rfl, slots_get hs t⟩, ih vs' hvs⟩
      · cases h
    | cell b t =>
      simp only [resV] at h
      split at h
      · rename_i id el off i vs' hx hi hvs
        split at h
        · rename_i ob hob
          split at h
          · rename_i v hl
            simp only [Option.some.injEq] at h
            subst h
            refine ⟨?_, ih vs' hvs⟩
            have hv := slots_get hs b
            rw [hx] at hv
            have hpr : PR ι (shp st.hp) id el off (a.tmps.getD b undef) := hv
            have hoff : ι id ≠ .off := by
              obtain ⟨b, base, room, h1, _⟩ := hpr
              rw [h1]; simp
            obtain ⟨q, h1, h2⟩ := load_sound (P := P) (hT t i hi) (hh id ob hob hoff) (shp_of hob) hpr (v := v) (by cases hd : i.d <;> rw [hd] at hl <;> exact hl)
            obtain ⟨b', base, room, e1, e2, e3⟩ := hpr
            refine ⟨q, ?_, h2⟩
            rw [e2] at h1
            simp only
            rw [e2]
            simpa [Instr.loadAt, Instr.sureAddr, asAddr] using h1
          · cases h
        · cases h
      · cases h

theorem F2.comp {α β γ : Type} {R : α → β → Prop} {S : α → γ → Prop} {T : β → γ → Prop} (h : ∀ a b c, R a b → S a c → T b c) : ∀ {as : List α} {bs : List β} {cs : List γ}, F2 R as bs → F2 S as cs → F2 T bs cs
  | [], [], [], _, _ => trivial
  | _ :: _, _ :: _, _ :: _, ⟨h1, h2⟩, ⟨g1, g2⟩ => ⟨h _ _ _ h1 g1, F2.comp h h2 g2⟩
  | [], _ :: _, _, h, _ => h.elim
  | _ :: _, [], _, h, _ => h.elim
  | [], [], _ :: _, _, h => h.elim
  | _ :: _, _ :: _, [], _, h => h.elim

def wrapC : List Value → Value
  | [c] => c
  | cs => .tuple cs.toArray

theorem results_sound {ι : Nat → Pl} {w : World} {a : Act} {st : St} {fn : Func} {vs : List V} (hT : TyOK P ty) (hs : F2 (VR ι (shp st.hp)) st.sl a.tmps.toList) (hh : HR ι st.hp w) (h : resV ty st fn.results.toList = some vs) :
    ∃ cs : List Value, F2 (VR ι (shp st.hp)) vs cs ∧ (results fn a.tmps).run P w = .ok (wrapC cs) w := by
  have hF := resV_sound hT hs hh fn.results.toList vs h
  obtain ⟨cs, h1, h2⟩ := run_mapM (P := P) (w := w) (as := fn.results) (f := fun x => (match x with | .tmp t => pure (a.tmps.getD t undef) | .cell b t => do loadVar t (← asAddr (a.tmps.getD b undef)) : Sem Value))
    (R := fun x c => ((match x with | .tmp t => pure (a.tmps.getD t undef) | .cell b t => do loadVar t (← asAddr (a.tmps.getD b undef)) : Sem Value)).run P w = .ok c w) (fun x hx => by
      have hm : ∀ {rs : List ResultVar} {vs : List V}, F2 (fun (x : ResultVar) (v : V) => ∃ c, ((match x with | .tmp t => pure (a.tmps.getD t undef) | .cell b t => do loadVar t (← asAddr (a.tmps.getD b undef))) : Sem Value).run P w = .ok c w ∧ VR ι (shp st.hp) v c) rs vs → x ∈ rs →
          ∃ c, ((match x with | .tmp t => pure (a.tmps.getD t undef) | .cell b t => do loadVar t (← asAddr (a.tmps.getD b undef))) : Sem Value).run P w = .ok c w := by
        intro rs
        induction rs with
        | nil => intro vs _ hx; cases hx
        | cons y rs ih =>
          intro vs hF hx
          cases vs with
          | nil => exact hF.elim
          | cons v vs =>
            obtain ⟨⟨c, hc, _⟩, hr⟩ := hF
            cases hx with
            | head => exact ⟨c, hc⟩
            | tail _ hx => exact ih hr hx
      obtain ⟨c, hc⟩ := hm hF (by simpa using hx)
      exact ⟨c, hc, hc⟩)
  refine ⟨cs.toList, F2.comp (fun x v c hv hc => ?_) hF h2, ?_⟩
  · obtain ⟨c', e1, e2⟩ := hv
    rw [hc] at e1
    cases e1
    exact e2
  · have e : results fn a.tmps = (do
        let vs ← fn.results.mapM fun x => (match x with | .tmp t => pure (a.tmps.getD t undef) | .cell b t => do loadVar t (← asAddr (a.tmps.getD b undef)) : Sem Value)
        pure (if h : vs.size = 1 then vs[0] else .tuple vs)) := rfl
    rw [e]
    simp only [Sem.run_bind, h1, Result.andThen_ok, Sem.run_pure]
    congr 1
    obtain ⟨l⟩ := cs
    match l with
    | [] => rfl
    | [c] => rfl
    | _ :: _ :: _ => rfl
end Go.Fx
