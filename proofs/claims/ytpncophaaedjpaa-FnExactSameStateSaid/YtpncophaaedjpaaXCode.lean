/- Regions and code. -/
import Derived.Test.YtpncophaaedjpaaXDraw3
namespace Go.Fx
variable {P : Program} {cx : Cx} {α : Type} {r : α}

theorem calm_pick {o : Oper} {sl : List V} {hp : List Ob} {c a b : Operand} {t : Bool} (ho : o.op = .pick c a b) (hc : evA sl c = .at (.bool t)) : CalmOp P o sl hp (match t with | true => evA sl a | false => evA sl b) [] := by
  refine calm_value fun ι ac w hops hhr => ?_
  have h1 := hops c (by simp [ho, Op.operands])
  have h2 := hops a (by simp [ho, Op.operands])
  have h3 := hops b (by simp [ho, Op.operands])
  rw [hc] at h1
  have h1' : ac.eval c = .bool t := h1
  cases t with
  | true => exact ⟨ac.eval a, 0, by rw [World.drewN_zero]; simp [execOp, ho, h1', asBool], h2⟩
  | false => exact ⟨ac.eval b, 0, by rw [World.drewN_zero]; simp [execOp, ho, h1', asBool], h3⟩

theorem effOp_sound {n0 : Nat} {o : Oper} {st : St} {k : St → Option α} (hC : CxOK P cx) (h : effOp cx n0 o st k = some r) : ∃ st', k st' = some r ∧ EffOp P n0 o st st' ∧ st'.sl.length = st.sl.length := by
  unfold effOp at h
  split at h
  · rename_i t x y ho
    split at h
    · rename_i id el off cs i hx hy hi
      split at h
      · rename_i ob hl hob
        split at h
        · rename_i ob' hs
          exact ⟨_, h, eff_store hC.ty ho hi hx hy (Nat.eq_of_beq_eq_true hl) hob hs, put_length⟩
        · cases h
      · cases h
    · cases h
  · rename_i args tys ho
    split at h
    · rename_i x y t t' hx ht
      have e1 := list_of_toList hx
      have e2 := list_of_toList ht
      subst e1; subst e2
      rw [chk_some] at h
      obtain ⟨h1, h⟩ := h
      obtain rfl := Nat.eq_of_beq_eq_true h1
      split at h
      · rename_i et id ya hd hv hy
        split at h
        · rename_i ei ys ks xs he hys hob
          split at h
          · rename_i ks' hks
            simp only [chk_some, decide_eq_true_eq] at h
            obtain ⟨rfl, g2, g3, g4, g5, g6⟩ := h
            have := eff_append (P := P) (n0 := n0) hC.ty ho hd he hks hv hy hys hob g2 g3 (Nat.le_of_ble_eq_true g4) (by simpa [Nat.blt_eq] using g5)
            split at g6
            · rename_i hb; rw [hb] at this; exact ⟨_, g6, this, by simp [put_length]⟩
            · rename_i hb; rw [hb] at this; exact ⟨_, g6, this, by simp [put_length]⟩
          · cases h
        · cases h
      · cases h
    · cases h
  · cases h

theorem stepOp_sound {n0 : Nat} {bar : Bool} {o : Oper} {st : St} {k : St → Option α} (hC : CxOK P cx) (hE : ∀ f, cx.eff f = false) (h : stepOp cx n0 bar o st k = some r) :
    ∃ st', k st' = some r ∧ ((∃ v news, st' = ⟨put st.sl o.dst v, st.hp ++ news⟩ ∧ CalmOp P o st.sl st.hp v news) ∨ (bar = true ∧ EffOp P n0 o st st' ∧ st'.sl.length = st.sl.length)) := by
  unfold stepOp at h
  have hcalm : ∀ {e : V → List Ob → Option α}, calm cx o st.sl st.hp (fun v news => k ⟨put st.sl o.dst v, st.hp ++ news⟩) e = some r →
      ∃ st', k st' = some r ∧ ((∃ v news, st' = ⟨put st.sl o.dst v, st.hp ++ news⟩ ∧ CalmOp P o st.sl st.hp v news) ∨ (bar = true ∧ EffOp P n0 o st st' ∧ st'.sl.length = st.sl.length)) := by
    intro e h
    obtain ⟨v, news, h1, h2⟩ := calm_sound hC hE h
    exact ⟨_, h2, .inl ⟨v, news, rfl, h1⟩⟩
  have heff : ∀ {k : St → Option α}, chk bar (effOp cx n0 o st k) = some r →
      ∃ st', k st' = some r ∧ ((∃ v news, st' = ⟨put st.sl o.dst v, st.hp ++ news⟩ ∧ CalmOp P o st.sl st.hp v news) ∨ (bar = true ∧ EffOp P n0 o st st' ∧ st'.sl.length = st.sl.length)) := by
    intro k h
    rw [chk_some] at h
    obtain ⟨st', h1, h2⟩ := effOp_sound hC h.2
    exact ⟨st', h1, .inr ⟨h.1, h2⟩⟩
  split at h
  · exact heff h
  · rename_i c a b ho
    split at h
    · rename_i t hc
      have := calm_pick (P := P) (hp := st.hp) ho hc
      cases t with
      | true => exact ⟨_, h, .inl ⟨_, [], by simp, this⟩⟩
      | false => exact ⟨_, h, .inl ⟨_, [], by simp, this⟩⟩
    · cases h
  · split at h
    · split at h
      · exact hcalm h
      · exact heff h
    · cases h
  · exact hcalm h

theorem set_same {l : List V} {d : Nat} {v x : V} (h : l.getD d x = v) (hne : v ≠ x) : l.set d v = l := by
  rw [List.getD_eq_getElem?_getD] at h
  cases hd : l[d]? with
  | none => rw [hd] at h; exact absurd h.symm hne
  | some u =>
    rw [hd] at h
    simp at h
    subst h
    obtain ⟨h1, h2⟩ := List.getElem?_eq_some_iff.1 hd
    rw [← h2]; exact List.set_getElem_self h1

/-- All operations of a region, in the order of the text. -/
theorem evOps_sound {n0 : Nat} {all : Array Oper} {dr : Bool} (hC : CxOK P cx) (hE : ∀ f, cx.eff f = false) : ∀ (l : List Oper) (i : Nat) (st : St) (k : St → Option α), (∀ j, l[j]? = all[i + j]?) → evOps cx n0 all dr i l st k = some r →
    ∃ σ : Nat → St, σ i = st ∧ k (σ (i + l.length)) = some r ∧ ∀ j, i ≤ j → j < i + l.length → CalmStep P all σ j ∨ EffStep P n0 all dr σ j := by
  intro l
  induction l with
  | nil => intro i st k _ h; exact ⟨fun _ => st, rfl, by simpa [evOps] using h, fun j h1 h2 => by simp at h2; omega⟩
  | cons o l ih =>
    intro i st k hl h
    have h0 : all[i]? = some o := by simpa using (hl 0).symm
    have hl' : ∀ j, l[j]? = all[i + 1 + j]? := fun j => by have := hl (j + 1); simpa [Nat.add_assoc, Nat.add_comm 1 j] using this
    -- a step, and the rest
    have done : ∀ (st' : St), ((∃ v news, st' = ⟨put st.sl o.dst v, st.hp ++ news⟩ ∧ ((Wanted all o st ∧ CalmOp P o st.sl st.hp v news) ∨ (Unwanted all o st ∧ v = .at .void ∧ news = []))) ∨
        (Wanted all o st ∧ EffOp P n0 o st st' ∧ (dr = true → barrier all i = true) ∧ st'.sl.length = st.sl.length)) → evOps cx n0 all dr (i + 1) l st' k = some r →
        ∃ σ : Nat → St, σ i = st ∧ k (σ (i + (o :: l).length)) = some r ∧ ∀ j, i ≤ j → j < i + (o :: l).length → CalmStep P all σ j ∨ EffStep P n0 all dr σ j := by
      intro st' hstep hrest
      obtain ⟨σ, g1, g2, g3⟩ := ih (i + 1) st' k hl' hrest
      have hσ : ∀ j, i + 1 ≤ j → (fun j => if j = i then st else σ j) j = σ j := fun j hj => by simp [show j ≠ i by omega]
      refine ⟨fun j => if j = i then st else σ j, by simp, ?_, fun j h1 h2 => ?_⟩
      · rw [hσ _ (by simp only [List.length_cons]; omega), show i + (o :: l).length = i + 1 + l.length by simp; omega]; exact g2
      · simp only [List.length_cons] at h2
        rcases Nat.eq_or_lt_of_le h1 with rfl | hlt
        · have e1 : (fun j => if j = i then st else σ j) i = st := by simp
          have e2 : (fun j => if j = i then st else σ j) (i + 1) = st' := by simp [g1]
          rcases hstep with ⟨v, news, h1, h2⟩ | ⟨h1, h2, h3, h4⟩
          · left
            refine ⟨o, v, news, h0, ?_, ?_⟩
            · rw [e2, e1]; exact h1
            · rw [e1]; exact h2
          · right
            refine ⟨o, h0, ?_, ?_, h3, ?_⟩
            · rw [e1]; exact h1
            · rw [e1, e2]; exact h2
            · rw [e1, e2]; exact h4
        · have e1 := hσ j hlt
          have e2 := hσ (j + 1) (by omega)
          rcases g3 j hlt (by omega) with hh | hh
          · left; unfold CalmStep at *; rw [e1, e2]; exact hh
          · right; unfold EffStep at *; rw [e1, e2]; exact hh
    have run : ∀ (bar : Bool), (bar = true → dr = true → barrier all i = true) → Wanted all o st → stepOp cx n0 bar o st (fun st' => evOps cx n0 all dr (i + 1) l st' k) = some r →
        ∃ σ : Nat → St, σ i = st ∧ k (σ (i + (o :: l).length)) = some r ∧ ∀ j, i ≤ j → j < i + (o :: l).length → CalmStep P all σ j ∨ EffStep P n0 all dr σ j := by
      intro bar hbar hwant hs
      obtain ⟨st', h1, h2⟩ := stepOp_sound hC hE hs
      refine done st' ?_ h1
      rcases h2 with ⟨v, news, h2, h3⟩ | ⟨h2, h3, h4⟩
      · exact .inl ⟨v, news, h2, .inl ⟨hwant, h3⟩⟩
      · exact .inr ⟨hwant, h3, hbar h2, h4⟩
    unfold evOps at h
    split at h
    · rename_i hg
      refine run _ ?_ (.inl hg) h
      clear run done h
      intro h1 h2; subst h2; exact h1
    · rename_i j want hg
      split at h
      · rename_i d hd
        split at h
        · rename_i t ht
          cases t with
          | true =>
            have hset : st.sl.set d (.at (.bool true)) = st.sl := set_same ht (by simp)
            cases want with
            | true =>
              simp only [hset] at h
              refine run _ ?_ (.inr ⟨j, true, d, hg, hd, ht⟩) h
              clear run done h
              intro h1 h2; subst h2; exact h1
            | false =>
              simp only [hset] at h
              exact done _ (.inl ⟨.at .void, [], by simp, .inr ⟨⟨j, false, d, hg, hd, .inl ht⟩, rfl, rfl⟩⟩) h
          | false =>
            have hset : st.sl.set d (.at (.bool false)) = st.sl := set_same ht (by simp)
            cases want with
            | false =>
              simp only [hset] at h
              refine run _ ?_ (.inr ⟨j, false, d, hg, hd, ht⟩) h
              clear run done h
              intro h1 h2; subst h2; exact h1
            | true =>
              simp only [hset] at h
              exact done _ (.inl ⟨.at .void, [], by simp, .inr ⟨⟨j, true, d, hg, hd, .inl ht⟩, rfl, rfl⟩⟩) h
        · rename_i ht
          exact done _ (.inl ⟨.at .void, [], by simp, .inr ⟨⟨j, want, d, hg, hd, .inr ht⟩, rfl, rfl⟩⟩) h
        · cases h
      · cases h

/-- In the order of the text. -/
theorem seq_run {g : Beg} {all : Array Oper} {σ : Nat → St} {n0 : Nat} {Q : Exit → Act → World → Prop} (hn0 : g.h0.length = n0) : ∀ (l : List Oper) (i : Nat) (ι : Nat → Pl) (a : Act) (w : World), (∀ j, l[j]? = all[i + j]?) →
    (∀ j, i ≤ j → j < i + l.length → CalmStep P all σ j ∨ EffStep P n0 all false σ j) → Rel g ι (σ i) a w → (∀ ι a w, Rel g ι (σ (i + l.length)) a w → Q .normal a w) → wpList P all Q l a w := by
  intro l
  induction l with
  | nil => intro i ι a w _ _ h hQ; exact hQ ι a w (by simpa using h)
  | cons o l ih =>
    intro i ι a w hl hs h hQ
    have h0 : all[i]? = some o := by simpa using (hl 0).symm
    have hl' : ∀ j, l[j]? = all[i + 1 + j]? := fun j => by have := hl (j + 1); simpa [Nat.add_assoc, Nat.add_comm 1 j] using this
    have hnext : ∀ ι' a' w', Rel g ι' (σ (i + 1)) a' w' → wpList P all Q l a' w' := fun ι' a' w' h' =>
      ih (i + 1) ι' a' w' hl' (fun j h1 h2 => hs j (by omega) (by simp only [List.length_cons]; omega)) h' (by
        rw [show i + 1 + l.length = i + (o :: l).length by simp only [List.length_cons]; omega]; exact hQ)
    have hreads : ∀ d ∈ reads all o, VR ι (shp (σ i).hp) ((σ i).sl.getD d (.at .void)) (a.tmps.getD d undef) := fun d _ => slots_get h.slots d
    unfold wpList
    rcases hs i (Nat.le_refl _) (by simp only [List.length_cons]; omega) with ⟨o', v, news, ho, hσ, hcase⟩ | ⟨o', ho, hwant, heff, _, _⟩
    · rw [h0] at ho; cases ho
      rcases hcase with ⟨hwant, hcalm⟩ | ⟨hun, rfl, rfl⟩
      · rw [if_pos (wanted_of hwant hreads)]
        left
        have := hcalm.eff (n0 := n0)
        rw [← hσ] at this
        exact this g ι a w hn0 h _ Q hnext
      · rw [if_neg (by rw [unwanted_of hun hreads]; simp)]
        refine hnext ι _ _ ?_
        rw [hσ]
        exact h.calm (Grow.none (WX.refl w)) (c := undef) rfl (by rw [List.append_nil]; exact h.heap)
    · rw [h0] at ho; cases ho
      rw [if_pos (wanted_of hwant hreads)]
      left
      exact heff g ι a w hn0 h _ Q hnext

/-! ### code -/
def exOf : Ex → Exit
  | .normal => .normal
  | .exit id => .exit id
  | .ret => .ret

/-- From one state the code comes to another. -/
def CodeTo (P : Program) (n0 : Nat) (c : Code) (st : St) (e : Ex) (st' : St) : Prop :=
  ∀ (g : Beg) (ι : Nat → Pl) (a : Act) (w : World), g.h0.length = n0 → Rel g ι st a w → ∀ Q : Exit → Act → World → Prop, (∀ ι' a' w', Rel g ι' st' a' w' → Q (exOf e) a' w') → c.wp P Q a w

theorem steps_len {all : Array Oper} {σ : Nat → St} {n0 : Nat} {dr : Bool} {m : Nat} (h : ∀ j, j < m → CalmStep P all σ j ∨ EffStep P n0 all dr σ j) : (σ m).sl.length = (σ 0).sl.length := by
  induction m with
  | zero => rfl
  | succ m ih =>
    rw [← ih fun j hj => h j (by omega)]
    rcases h m (by omega) with ⟨o, v, news, _, hs, _⟩ | ⟨o, _, _, _, _, hl⟩
    · rw [hs]; exact put_length
    · exact hl

theorem region_sound {n0 id : Nat} {ops : Array Oper} {draw : Bool} {st : St} {k : Ex → St → Option α} (hC : CxOK P cx) (hE : ∀ f, cx.eff f = false) (hmix : P.follows .mixedOrders = true) (h : evC cx n0 (.region id ops draw) st k = some r) :
    ∃ st', k .normal st' = some r ∧ st'.sl.length = st.sl.length ∧ CodeTo P n0 (.region id ops draw) st .normal st' := by
  unfold evC at h
  cases draw with
  | true =>
    simp only [chk_some] at h
    obtain ⟨hd, h⟩ := h
    obtain ⟨σ, h1, h2, h3⟩ := evOps_sound hC hE ops.toList 0 st (k .normal) (by simp) h
    simp only [Nat.zero_add, Array.length_toList] at h2 h3
    have hl := steps_len (fun j hj => h3 j (Nat.zero_le _) hj)
    rw [h1] at hl
    refine ⟨_, h2, hl, fun g ι a w hn0 hrel Q hQ => ?_⟩
    exact region_draw hmix hd hn0 (fun j hj => h3 j (Nat.zero_le _) hj) hQ (by rw [h1]; exact hrel)
  | false =>
    simp only at h
    obtain ⟨σ, h1, h2, h3⟩ := evOps_sound hC hE ops.toList 0 st (k .normal) (by simp) h
    have hl := steps_len (m := 0 + ops.toList.length) (fun j hj => h3 j (Nat.zero_le _) hj)
    rw [h1] at hl
    refine ⟨_, h2, hl, fun g ι a w hn0 hrel Q hQ => ?_⟩
    exact wp_region_list (seq_run hn0 ops.toList 0 ι a w (by simp) h3 (by rw [h1]; exact hrel) hQ)
end Go.Fx
