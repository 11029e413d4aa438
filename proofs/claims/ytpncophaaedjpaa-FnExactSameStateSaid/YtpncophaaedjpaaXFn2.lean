/- Functions: the evaluator's answer is the call's. -/
import Derived.Test.YtpncophaaedjpaaXFn
namespace Go.Fx
variable {P : Program} {cx : Cx}

def roB : List Ob → Bool
  | [] => true
  | ob :: t => match ob.own with
    | true => false
    | false => roB t

theorem roB_get : ∀ {h : List Ob}, roB h = true → ∀ (id : Nat) (ob : Ob), h[id]? = some ob → ob.own = false
  | [], _, id, ob, hi => by simp at hi
  | o :: t, hr, 0, ob, hi => by
    simp at hi; subst hi
    cases ho : o.own with
    | false => rfl
    | true => simp [roB, ho] at hr
  | o :: t, hr, id + 1, ob, hi => by
    simp at hi
    cases ho : o.own with
    | false => simp [roB, ho] at hr; exact roB_get hr id ob hi
    | true => simp [roB, ho] at hr

theorem toT_TR {ι : Nat → Pl} {S : Nat → Shp} {v : V} {c : Value} (h : VR ι S v c) : TR ι S (toT v) c := by
  cases v with
  | «at» a => exact h
  | agg as => exact h
  | tup xs => trivial

theorem toT_list {ι : Nat → Pl} {S : Nat → Shp} : ∀ {vs : List V} {cs : List Value}, F2 (VR ι S) vs cs → F2 (TR ι S) (vs.map toT) cs
  | [], [], _ => trivial
  | _ :: _, _ :: _, ⟨h1, h2⟩ => ⟨toT_TR h1, toT_list h2⟩
  | [], _ :: _, h => h.elim
  | _ :: _, [], h => h.elim

theorem wrap_VR {ι : Nat → Pl} {S : Nat → Shp} {vs : List V} {cs : List Value} (h : F2 (VR ι S) vs cs) : VR ι S (wrapV vs) (wrapC cs) := by
  match vs, cs, h with
  | [], [], _ => exact ⟨#[], rfl, trivial⟩
  | [v], [c], ⟨h, _⟩ => exact h
  | v :: v' :: vs, c :: c' :: cs, h => exact ⟨(c :: c' :: cs).toArray, rfl, toT_list h⟩
  | [], _ :: _, h => exact h.elim
  | _ :: _, [], h => exact h.elim
  | [_], _ :: _ :: _, ⟨_, h⟩ => exact h.elim
  | _ :: _ :: _, [_], ⟨_, h⟩ => exact h.elim

/-- What stands at the end of a call. -/
theorem finish_sound {g : Beg} {ι : Nat → Pl} {fn : Func} {eff : Bool} {n0 : Nat} {st : St} {a : Act} {w : World} {ret : Ret} (hC : CxOK P cx) (hn0 : g.h0.length = n0) (h : finish cx fn eff n0 st = some ret) (hrel : Rel g ι st a w) :
    ∃ c ι' h2, (results fn a.tmps).run P w = .ok c w ∧ RelH g ι' h2 w ∧ VR ι' (shp h2) ret.r c ∧ ret.news = h2.drop n0 ∧ ret.upd = updOf eff n0 h2 := by
  unfold finish at h
  split at h
  · cases h
  · rename_i vs hvs
    rw [chk_some] at h
    obtain ⟨hns, h⟩ := h
    have hns : anySub vs = false := by simpa using hns
    split at h
    rename_i vs1 hpT hview
    dsimp only at h
    simp only [Option.some.injEq] at h
    obtain ⟨cs, h1, h2⟩ := results_sound (P := P) (fn := fn) hC.ty hrel.slots hrel.heap hvs
    obtain ⟨ιT, hv, h3⟩ := viewVs_E hview hns hrel.heap h1
    have hH := hrel.toH.views hv
    have hids := ids_spec n0 3 (vs1.flatMap V.ids) hpT
    generalize reach 3 (addIds (List.range n0) (vs1.flatMap V.ids)) hpT = ids at h hids
    have hP := hH.pick (ids := ids) (by rw [hn0]; exact hids.1) hids.2
    obtain ⟨_, hcor⟩ := pick_HR (ro := false) hH.heap (fun i => idx i ids) (fun i j hij => idx_get hij)
    have h4 := F2.ren_list hcor h3
    subst h
    exact ⟨_, _, _, h2, hP, wrap_VR h4, rfl, rfl⟩

theorem init_rel {ι : Nat → Pl} {w : World} {h : List Ob} {args : List V} {cs : Array Value} {fn : Func} (hargs : F2 (VR ι (shp h)) args cs.toList) (hh : HR ι h w) (hinj : INJ ι h) :
    Rel ⟨w, ι, h⟩ ι (initSt fn args h) { tmps := cs ++ Array.replicate (fn.ntmps - cs.size) undef, defers := [] } w := by
  have hl := hargs.length
  simp only [Array.length_toList] at hl
  refine ⟨?_, rfl, hh, hinj, fun _ _ => rfl, fun id ob ho => ⟨ob, ho, rfl, .inl rfl⟩, rfl, rfl, rfl, Nat.le_refl _, fun _ _ _ => rfl, fun id ob b base room h1 h2 => ?_⟩
  · simp only [initSt, Array.toList_append, Array.toList_replicate, hl]
    exact hargs.append (F2.replicate (R := VR ι (shp h)) (a := .at .void) (b := undef) rfl _)
  · simp only [initSt] at h2
    rw [List.getElem?_eq_none h1] at h2; cases h2

/-- A function that changes nothing. -/
theorem holds_of_ev {f : FuncId} {fn : Func} {c : Code} {args : List V} {h : List Ob} {r : V} {news : List Ob} (hC : CxOK P cx) (hE : ∀ f, cx.eff f = false) (hmix : P.follows .mixedOrders = true) (hf : P.funcs[f]? = some fn) (hb : fn.body = some c) (hname : fn.name ≠ "runtime.NumGoroutine")
    (hsm : SmsOK P cx h.length (args.length + (fn.ntmps - args.length)) c) (hro : roB h = true) (hev : evFn cx fn false args h = some ⟨r, none, news⟩) : Holds P f args h r news := by
  intro ι w cs hargs hh
  have hown := roB_get hro
  have hinj : INJ ι h := fun i j oi oj b base room b' base' room' hi hj hij hoi => by rw [hown i oi hi] at hoi; cases hoi
  unfold evFn at hev
  rw [hb] at hev
  simp only at hev
  obtain ⟨e, st', h1, h2, h3⟩ := evC_sound hC hE hmix c (initSt fn args h) _ hsm (by simp [initSt]) hev
  have hrun : (callFunc f cs).run P w = .ok (.enter f cs) w := by
    simp [callFunc, hf, hname, hb]
  unfold CallsV
  rw [hrun]
  simp only
  have hrel := init_rel (fn := fn) hargs hh hinj
  have hmine : ∀ k, ¬ (Beg.mine ⟨w, ι, h⟩ k) := fun k ⟨id, ob, base, room, g1, g2, _⟩ => by rw [hown id ob g1] at g2; cases g2
  -- at the end
  have key : ∀ ι' a' w', Rel ⟨w, ι, h⟩ ι' st' a' w' → finish cx fn false h.length st' = some ⟨r, none, news⟩ →
      a'.defers = [] ∧ ∃ v, (results fn a'.tmps).run P w' = .ok v w' ∧ ∃ c', Ending.returned v = Ending.returned c' ∧ ∃ ι'', Grow ι ι'' h news w w' ∧ VR ι'' (shp (h ++ news)) r c' ∧ HR ι'' (h ++ news) w' := by
    intro ι' a' w' hr hfin
    obtain ⟨c', ι2, h2', g1, g2, g3, g4, _⟩ := finish_sound (g := ⟨w, ι, h⟩) (n0 := h.length) hC rfl hfin hr
    simp only at g3 g4
    refine ⟨hr.defers, c', g1, c', rfl, ι2, ?_⟩
    have hlen : h.length ≤ h2'.length := g2.len
    have hkeep : ∀ id, id < h.length → ι2 id = ι id := g2.keep
    have hget : ∀ id, h.length ≤ id → (h ++ news)[id]? = h2'[id]? := fun id hid => by
      rw [List.getElem?_append_right hid, g4, List.getElem?_drop]; congr 1; omega
    have hshp : ∀ id, shp h2' id ≠ .no → shp (h ++ news) id = shp h2' id := fun id hn => by
      rcases Nat.lt_or_ge id h.length with hl | hl
      · rw [shp_append_lt hl]
        obtain ⟨ob', e1, _, e3⟩ := g2.flag id _ (List.getElem?_eq_getElem hl)
        simp only at e1
        rw [shp_of e1] at hn ⊢
        rcases e3 with e3 | e3
        · rw [e3, shp_of (List.getElem?_eq_getElem hl)]
        · exact absurd e3 hn
      · unfold shp; rw [hget id hl]
    have hwx : WX w w' := ⟨g2.os, g2.tape, g2.output, g2.size, fun k hk => g2.block k hk (hmine k)⟩
    refine ⟨⟨hkeep, hwx, fun i oi b base room hi ho hl hon => ?_, fun i j oi oj b base room b' base' room' hi hj hij ho ho' hown' hl hl' hon hon' => ?_⟩, VR.ext (fun id hn => ⟨rfl, hshp id hn⟩) g3, fun id ob ho hoff => ?_⟩
    · rw [hget i hi] at ho
      rcases g2.fresh i oi b base room hi ho hl hon with h | h
      · exact h
      · exact absurd h (hmine b)
    · rw [hget i hi] at ho
      rw [hget j hj] at ho'
      exact g2.inj i j oi oj b base room b' base' room' ho ho' hij hown' hl hl' hon hon'
    · rcases Nat.lt_or_ge id h.length with hl | hl
      · rw [List.getElem?_append_left hl] at ho
        rw [hkeep id hl] at hoff
        exact (hh id ob ho hoff).ext (fun id' hn => ⟨hkeep id' (shp_lt hn), shp_append_lt (shp_lt hn)⟩) (hkeep id hl) (fun b _ _ _ hb => hwx.block b hb)
      · rw [hget id hl] at ho
        exact (g2.heap id ob ho hoff).ext (fun id' hn => ⟨rfl, hshp id' hn⟩) rfl (fun _ _ _ _ _ => rfl)
  refine calls_of_wp hf hb (h3 ⟨w, ι, h⟩ ι _ w rfl hrel _ fun ι' a' w' hr => ?_)
  cases e with
  | normal => exact key ι' a' w' hr h1
  | ret => exact key ι' a' w' hr h1
  | exit id => cases h1
end Go.Fx
