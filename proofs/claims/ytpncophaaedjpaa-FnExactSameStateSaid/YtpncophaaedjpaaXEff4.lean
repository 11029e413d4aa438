/- Append, over a whole state. -/
import Derived.Test.YtpncophaaedjpaaXEff3
namespace Go.Fx
variable {P : Program} {ty : Nat → Option TI}

theorem eff_append {n0 : Nat} {o : Oper} {t et : TypeId} {x y : Operand} {id : Nat} {ya : A} {ei : TI} {ks : List K} {xs ys : List (List Int)} {st : St} (hT : TyOK P ty) (ho : o.op = .call { callee := .builtin .append, args := #[x, y], argTypes := #[t, t] })
    (ht : tyOf ty t = some (.sl et)) (he : ty et = some ei) (hks : ei.ks = some ks) (hx : evA st.sl x = .at (.sl id)) (hy : evA st.sl y = .at ya) (hys : slRows st.hp ya = some ys)
    (hob : st.hp[id]? = some ⟨true, .rows ks xs⟩) (hfit : ksFit st.hp ks ya = true) (hn : xs.length + ys.length ≤ 1073741824) (hb : ei.bytes ≤ 1024) (h0 : 0 < ei.size) :
    EffOp P n0 o st (match Nat.blt id n0 with
      | false => ⟨put (st.sl.map (V.kill id)) o.dst (.at (.sl id)), (st.hp.map (Ob.kill id)).set id ⟨true, .rows ks (xs ++ ys)⟩⟩
      | true => ⟨put (st.sl.map (V.kill id)) o.dst (.at (.sl st.hp.length)), (st.hp.map (Ob.kill id)).set id ⟨true, .dead⟩ ++ [⟨true, .rows ks (xs ++ ys)⟩]⟩) := by
  intro g ι a w hn0 h K Q hK
  have hvx := evA_VR h.slots x
  have hvy := evA_VR h.slots y
  rw [hx] at hvx; rw [hy] at hvy
  obtain ⟨v', w', pl, hr, hos, htape, hout, hsize, hblk, hpl, hfin⟩ := own_append (tyy := o.type) hT ht he hks h.heap hob hvx hys hvy hfit hn hb h0
  have hrun : (execOp a.eval o).run P w = .ok (.value v') w' := by
    simp [execOp, ho, resolve, invoke, builtin, hr]
  have hidlt : id < st.hp.length := (List.getElem?_eq_some_iff.1 hob).1
  have hlive : Ob.live ⟨true, .rows ks xs⟩ := by simp [Ob.live, shpOb]
  unfold Oper.wp
  rw [hrun, Oper.upon_value]
  cases hbl : Nat.blt id n0 with
  | false =>
    have hge : n0 ≤ id := by
      rcases Nat.lt_or_ge id n0 with h' | h'
      · have : Nat.blt id n0 = true := by rw [Nat.blt_eq]; exact h'
        rw [this] at hbl; cases hbl
      · exact h'
    rw [hbl] at hK
    have hT' : ((st.hp.map (Ob.kill id)).set id ⟨true, .rows ks (xs ++ ys)⟩)[id]? = some ⟨true, .rows ks (xs ++ ys)⟩ := List.getElem?_set_self (by simpa using hidlt)
    obtain ⟨f1, f2⟩ := hfin (fun j => if j = id then pl else ι j) (shp ((st.hp.map (Ob.kill id)).set id ⟨true, .rows ks (xs ++ ys)⟩)) id (by simp) (by rw [shp_of hT']; rfl)
    refine hK _ _ _ (h.regrow (tgt := id) (pl := pl) hob rfl hlive (.inl ⟨rfl, by omega⟩) (fun j hj _ => ?_) hT' (fun h => absurd rfl h) hos htape hout hsize hblk hpl f2 f1)
    rw [List.getElem?_set_ne (fun e => hj e.symm), List.getElem?_map]
  | true =>
    rw [hbl] at hK
    have hT' : ((st.hp.map (Ob.kill id)).set id ⟨true, .dead⟩ ++ [⟨true, .rows ks (xs ++ ys)⟩])[st.hp.length]? = some ⟨true, .rows ks (xs ++ ys)⟩ := by
      rw [List.getElem?_append_right (by simp)]; simp
    obtain ⟨f1, f2⟩ := hfin (fun j => if j = st.hp.length then pl else ι j) (shp ((st.hp.map (Ob.kill id)).set id ⟨true, .dead⟩ ++ [⟨true, .rows ks (xs ++ ys)⟩])) st.hp.length (by simp) (by rw [shp_of hT']; rfl)
    refine hK _ _ _ (h.regrow (tgt := st.hp.length) (pl := pl) hob rfl hlive (.inr rfl) (fun j hj hjt => ?_) hT' (fun _ => ?_) hos htape hout hsize hblk hpl f2 f1)
    · rcases Nat.lt_or_ge j st.hp.length with hl | hl
      · rw [List.getElem?_append_left (by simpa using hl), List.getElem?_set_ne (fun e => hj e.symm), List.getElem?_map]
      · rw [List.getElem?_eq_none (by simp; omega), List.getElem?_eq_none (by omega)]; rfl
    · rw [List.getElem?_append_left (by simpa using hidlt), List.getElem?_set_self (by simpa using hidlt)]
end Go.Fx
