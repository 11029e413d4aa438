/- Calls of functions that change nothing. -/
import Derived.Test.YtpncophaaedjpaaXCall
namespace Go.Fx
variable {P : Program} {ty : Nat → Option TI} {sl : List V} {hp : List Ob}

theorem viewAs_sound {w : World} : ∀ {lks : List (Option (List K))} {as as' : List A} {hp hp' : List Ob} {ι : Nat → Pl} {cs : List Value}, viewAs hp lks as = (as', hp') → HR ι hp w → F2 (AR ι (shp hp)) as cs →
    ∃ ι', Views ι ι' hp hp' w ∧ F2 (AR ι' (shp hp')) as' cs := by
  have step : ∀ {lk : Option (List K)} {a a' : A} {as as' : List A} {hp hp1 hp' : List Ob} {ι : Nat → Pl} {c : Value} {cs : List Value}, viewA hp lk a = (a', hp1) → HR ι hp w → AR ι (shp hp) a c → F2 (AR ι (shp hp)) as cs →
      (∀ ι1, HR ι1 hp1 w → F2 (AR ι1 (shp hp1)) as cs → ∃ ι', Views ι1 ι' hp1 hp' w ∧ F2 (AR ι' (shp hp')) as' cs) →
      ∃ ι', Views ι ι' hp hp' w ∧ F2 (AR ι' (shp hp')) (a' :: as') (c :: cs) := by
    intro lk a a' as as' hp hp1 hp' ι c cs hv h ha has ih
    obtain ⟨ι1, v1, h1⟩ := viewA_sound hv h ha
    obtain ⟨ι2, v2, h2⟩ := ih ι1 v1.heap (has.imp fun _ _ h => h.ext v1.ext)
    exact ⟨ι2, v1.trans v2, h1.ext v2.ext, h2⟩
  intro lks as
  induction as generalizing lks with
  | nil =>
    intro as' hp hp' ι cs hv h hF
    have : viewAs hp lks [] = ([], hp) := by cases lks <;> rfl
    rw [this] at hv
    cases hv
    match cs, hF with
    | [], _ => exact ⟨ι, Views.refl h, trivial⟩
    | _ :: _, hF => exact hF.elim
  | cons a as ih =>
    intro as' hp hp' ι cs hv h hF
    match cs, hF with
    | [], hF => exact hF.elim
    | c :: cs, ⟨ha, has⟩ =>
      cases lks with
      | nil =>
        simp only [viewAs] at hv
        generalize h1 : viewA hp none a = q at hv
        obtain ⟨a1, hp1⟩ := q
        simp only at hv
        generalize h2 : viewAs hp1 [] as = q at hv
        obtain ⟨as1, hp2⟩ := q
        simp only [Prod.mk.injEq] at hv
        obtain ⟨rfl, rfl⟩ := hv
        exact step h1 h ha has fun ι1 g1 g2 => ih h2 g1 g2
      | cons lk lks =>
        simp only [viewAs] at hv
        generalize h1 : viewA hp lk a = q at hv
        obtain ⟨a1, hp1⟩ := q
        simp only at hv
        generalize h2 : viewAs hp1 lks as = q at hv
        obtain ⟨as1, hp2⟩ := q
        simp only [Prod.mk.injEq] at hv
        obtain ⟨rfl, rfl⟩ := hv
        exact step h1 h ha has fun ι1 g1 g2 => ih h2 g1 g2

theorem viewV_sound {w : World} {t : Nat} {v v' : V} {hp' : List Ob} {ι : Nat → Pl} {c : Value} (hv : viewV ty hp t v = (v', hp')) (h : HR ι hp w) (hr : VR ι (shp hp) v c) :
    ∃ ι', Views ι ι' hp hp' w ∧ VR ι' (shp hp') v' c := by
  cases v with
  | «at» a =>
    simp only [viewV] at hv
    generalize h2 : viewAs hp (lksOf ty t) [a] = q at hv
    obtain ⟨as1, hp2⟩ := q
    obtain ⟨ι', v1, v2⟩ := viewAs_sound h2 h (cs := [c]) ⟨hr, trivial⟩
    match as1, v2 with
    | [a1], ⟨v2, _⟩ =>
      simp only [Prod.mk.injEq] at hv
      obtain ⟨rfl, rfl⟩ := hv
      exact ⟨ι', v1, v2⟩
    | [], v2 => exact v2.elim
    | _ :: _ :: _, ⟨_, v2⟩ => exact v2.elim
  | agg as =>
    simp only [viewV] at hv
    generalize h2 : viewAs hp (lksOf ty t) as = q at hv
    obtain ⟨as1, hp2⟩ := q
    simp only [Prod.mk.injEq] at hv
    obtain ⟨rfl, rfl⟩ := hv
    obtain ⟨cs, rfl, hF⟩ := hr
    obtain ⟨ι', v1, v2⟩ := viewAs_sound h2 h hF
    exact ⟨ι', v1, cs, rfl, v2⟩
  | tup xs =>
    simp only [viewV, Prod.mk.injEq] at hv
    obtain ⟨rfl, rfl⟩ := hv
    exact ⟨ι, Views.refl h, hr⟩

theorem viewVs_sound {w : World} : ∀ {ts : List Nat} {vs vs' : List V} {hp hp' : List Ob} {ι : Nat → Pl} {cs : List Value}, viewVs ty hp ts vs = (vs', hp') → HR ι hp w → F2 (VR ι (shp hp)) vs cs →
    ∃ ι', Views ι ι' hp hp' w ∧ F2 (VR ι' (shp hp')) vs' cs := by
  intro ts vs
  induction vs generalizing ts with
  | nil =>
    intro vs' hp hp' ι cs hv h hF
    have : viewVs ty hp ts [] = ([], hp) := by cases ts <;> rfl
    rw [this] at hv
    cases hv
    match cs, hF with
    | [], _ => exact ⟨ι, Views.refl h, trivial⟩
    | _ :: _, hF => exact hF.elim
  | cons v vs ih =>
    intro vs' hp hp' ι cs hv h hF
    match cs, hF with
    | [], hF => exact hF.elim
    | c :: cs, ⟨ha, has⟩ =>
      cases ts with
      | nil =>
        simp only [viewVs] at hv
        generalize h2 : viewVs ty hp [] vs = q at hv
        obtain ⟨vs1, hp2⟩ := q
        simp only [Prod.mk.injEq] at hv
        obtain ⟨rfl, rfl⟩ := hv
        obtain ⟨ι', v1, v2⟩ := ih h2 h has
        exact ⟨ι', v1, VR.ext v1.ext ha, v2⟩
      | cons t ts =>
        simp only [viewVs] at hv
        generalize h1 : viewV ty hp t v = q at hv
        obtain ⟨a1, hp1⟩ := q
        simp only at hv
        generalize h2 : viewVs ty hp1 ts vs = q at hv
        obtain ⟨vs1, hp2⟩ := q
        simp only [Prod.mk.injEq] at hv
        obtain ⟨rfl, rfl⟩ := hv
        obtain ⟨ι1, v1, v2⟩ := viewV_sound h1 h ha
        obtain ⟨ι2, w1, w2⟩ := ih h2 v1.heap (has.imp fun _ _ h => VR.ext v1.ext h)
        exact ⟨ι2, v1.trans w1, VR.ext w1.ext v2, w2⟩

theorem backId_lt {ids : List Nat} {n0 j id : Nat} (h : backId ids n0 j = some id) (hj : j < ids.length) : ids[j]? = some id ∧ id < n0 := by
  unfold backId at h
  have : Nat.blt j ids.length = true := by simpa [Nat.blt_eq] using hj
  rw [this] at h
  simp only at h
  cases hi : ids[j]? with
  | none => simp [hi] at h
  | some i =>
    simp only [hi] at h
    cases hb : Nat.blt i n0 with
    | false => simp [hb] at h
    | true => simp [hb] at h; subst h; exact ⟨rfl, by simpa [Nat.blt_eq] using hb⟩

theorem backId_ge {ids : List Nat} {n0 j id : Nat} (h : backId ids n0 j = some id) (hj : ids.length ≤ j) : id = n0 + (j - ids.length) := by
  unfold backId at h
  have : Nat.blt j ids.length = false := by
    cases hb : Nat.blt j ids.length with
    | false => rfl
    | true => rw [Nat.blt_eq] at hb; omega
  rw [this] at h
  simp at h
  exact h.symm

/-- From the callee's results back to the caller's numbers. -/
theorem back_sound {ι ιT ι2' : Nat → Pl} {w w' : World} {hpT : List Ob} {ids : List Nat} {ro : Bool} {m : Nat → Option Nat} {news : List Ob} {r : V} {c : Value} (h : HR ι hp w) (hv : Views ι ιT hp hpT w)
    (hg : Grow (fun j => match ids[j]? with | some i => ιT i | none => .off) ι2' (pick hpT m ro ids) news w w') (hr : VR ι2' (shp (pick hpT m ro ids ++ news)) r c) (hh : HR ι2' (pick hpT m ro ids ++ news) w') :
    ∃ ι', Grow ι ι' hp (news.map (Ob.ren (backId ids hp.length))) w w' ∧ VR ι' (shp (hp ++ news.map (Ob.ren (backId ids hp.length)))) (r.ren (backId ids hp.length)) c ∧
      HR ι' (hp ++ news.map (Ob.ren (backId ids hp.length))) w' := by
  have hlen : (pick hpT m ro ids).length = ids.length := by rw [pick_eq]; simp
  have hge : ∀ id, hp.length ≤ id → (hp ++ news.map (Ob.ren (backId ids hp.length)))[id]? = ((pick hpT m ro ids ++ news)[ids.length + (id - hp.length)]?).map (Ob.ren (backId ids hp.length)) := by
    intro id hid
    rw [List.getElem?_append_right hid, List.getElem?_append_right (by rw [hlen]; omega), hlen, List.getElem?_map]
    rw [show ids.length + (id - hp.length) - ids.length = id - hp.length by omega]
  obtain ⟨ι', hlt, hgt⟩ : ∃ ι' : Nat → Pl, (∀ id, id < hp.length → ι' id = ι id) ∧ (∀ id, hp.length ≤ id → ι' id = ι2' (ids.length + (id - hp.length))) :=
    ⟨fun id => if id < hp.length then ι id else ι2' (ids.length + (id - hp.length)), fun id hid => by simp [hid], fun id hid => by simp [Nat.not_lt.2 hid]⟩
  have hcorr : ∀ j id, backId ids hp.length j = some id → shp (pick hpT m ro ids ++ news) j ≠ .no →
      ι' id = ι2' j ∧ shp (hp ++ news.map (Ob.ren (backId ids hp.length))) id = shp (pick hpT m ro ids ++ news) j := by
    intro j id hb hn
    rcases Nat.lt_or_ge j ids.length with hj | hj
    · obtain ⟨h1, h2⟩ := backId_lt hb hj
      obtain ⟨⟨vs, rfl⟩, hag, _⟩ := hv
      refine ⟨?_, ?_⟩
      · rw [hlt id h2, hg.agree j (by rw [hlen]; exact hj)]
        simp only [h1]
        exact (hag id h2).symm
      · rw [shp_append_lt h2, shp_append_lt (by rw [hlen]; exact hj)]
        unfold shp
        rw [pick_eq, List.getElem?_map, h1]
        simp only [Option.map_some, pickOb]
        rw [List.getElem?_append_left h2]
        cases ho : hp[id]? with
        | none => rw [List.getElem?_eq_none_iff] at ho; omega
        | some ob =>
          cases ro with
          | true => exact (shpOb_ren m ob).symm
          | false => exact (shpOb_ren m ob).symm
    · have := backId_ge hb hj
      subst this
      refine ⟨?_, ?_⟩
      · rw [hgt _ (by omega)]
        rw [show ids.length + (hp.length + (j - ids.length) - hp.length) = j by omega]
      · unfold shp
        rw [hge _ (by omega), show ids.length + (hp.length + (j - ids.length) - hp.length) = j by omega]
        cases (pick hpT m ro ids ++ news)[j]? with
        | none => rfl
        | some ob => exact shpOb_ren _ ob
  refine ⟨ι', ⟨hlt, hg.wx, ?_, ?_⟩, VR.ren hcorr hr, ?_⟩
  · intro i oi b base room hi hoi hl hon
    rw [hge i hi] at hoi
    rw [hgt i hi] at hon
    cases ho : (pick hpT m ro ids ++ news)[ids.length + (i - hp.length)]? with
    | none => simp [ho] at hoi
    | some ob =>
      simp [ho] at hoi
      subst hoi
      exact hg.fresh _ ob b base room (by rw [hlen]; omega) ho (by unfold Ob.live at *; rwa [shpOb_ren] at hl) hon
  · intro i j oi oj b base room b' base' room' hi hj hij hoi hoj hown hli hlj hon hon'
    rw [hge i hi] at hoi
    rw [hge j hj] at hoj
    rw [hgt i hi] at hon
    rw [hgt j hj] at hon'
    cases ho : (pick hpT m ro ids ++ news)[ids.length + (i - hp.length)]? with
    | none => simp [ho] at hoi
    | some ob =>
      cases ho' : (pick hpT m ro ids ++ news)[ids.length + (j - hp.length)]? with
      | none => simp [ho'] at hoj
      | some ob' =>
        simp [ho] at hoi
        simp [ho'] at hoj
        subst hoi; subst hoj
        unfold Ob.live at *
        rw [shpOb_ren] at hli hlj
        rw [own_ren] at hown
        exact hg.inj _ _ ob ob' b base room b' base' room' (by rw [hlen]; omega) (by rw [hlen]; omega) (by omega) ho ho' hown hli hlj hon hon'
  · intro id ob hi hoff
    rcases Nat.lt_or_ge id hp.length with hid | hid
    · rw [List.getElem?_append_left hid] at hi
      rw [hlt id hid] at hoff
      refine (h id ob hi hoff).ext (fun id' hn => ?_) (hlt id hid) (fun b _ _ _ hb => hg.wx.block b hb)
      have hl := shp_lt hn
      exact ⟨hlt id' hl, shp_append_lt hl⟩
    · rw [hge id hid] at hi
      rw [hgt id hid] at hoff
      cases ho : (pick hpT m ro ids ++ news)[ids.length + (id - hp.length)]? with
      | none => simp [ho] at hi
      | some ob' =>
        simp [ho] at hi
        subst hi
        exact (hh _ ob' ho hoff).ren hcorr (hgt id hid)

theorem F2.ren_list {ι ι' : Nat → Pl} {S S' : Nat → Shp} {m : Nat → Option Nat} (h : ∀ id j, m id = some j → S id ≠ .no → ι' j = ι id ∧ S' j = S id) {vs : List V} {cs : List Value} (hF : F2 (VR ι S) vs cs) : F2 (VR ι' S') (vs.map (V.ren m)) cs :=
  F2.map_left (f := V.ren m) (fun _ _ hv => VR.ren h hv) hF

/-- A call that changes nothing. -/
theorem call_ro {f : FuncId} {tys : List Nat} {args args1 : List V} {hpT : List Ob} {ids : List Nat} {r : V} {news : List Ob} (hview : viewVs ty hp tys args = (args1, hpT))
    (hold : Holds P f (args1.map (V.ren fun i => idx i ids)) (pick hpT (fun i => idx i ids) true ids) r news) {ι : Nat → Pl} {w : World} {cs : Array Value} (hargs : F2 (VR ι (shp hp)) args cs.toList) (h : HR ι hp w) :
    CallsV P f cs w fun c w' => ∃ ι', Grow ι ι' hp (news.map (Ob.ren (backId ids hp.length))) w w' ∧ VR ι' (shp (hp ++ news.map (Ob.ren (backId ids hp.length)))) (r.ren (backId ids hp.length)) c ∧
      HR ι' (hp ++ news.map (Ob.ren (backId ids hp.length))) w' := by
  obtain ⟨ιT, hv, hargs1⟩ := viewVs_sound hview h hargs
  obtain ⟨hh2, hcor⟩ := pick_HR (ro := true) hv.heap (fun i => idx i ids) (fun i j hij => idx_get hij)
  have hargs2 := F2.ren_list hcor hargs1
  exact (hold _ w cs hargs2 hh2).mono fun c w' ⟨ι2', hg, hr, hhr⟩ => back_sound h hv hg hr hhr
end Go.Fx
