/- Every calm step of the evaluator is one: calls, and all together. -/
import Derived.Test.YtpncophaaedjpaaXSound
namespace Go.Fx
variable {P : Program} {sl : List V} {hp : List Ob} {cx : Cx} {o : Oper} {α : Type} {k e : V → List Ob → Option α} {r : α}

theorem list_of_toList {β : Type} {a : Array β} {l : List β} (h : a.toList = l) : a = l.toArray := by rw [← h]

theorem s_len {args : Array Operand} {tys : Array TypeId} (hC : CxOK P cx) (ho : o.op = .call { callee := .builtin .len, args := args, argTypes := tys }) (h : calm cx o sl hp k e = some r) : Step P o sl hp k r := by
  simp only [calm, ho] at h
  split at h
  · rename_i x t hx ht
    have e1 := list_of_toList hx
    have e2 := list_of_toList ht
    subst e1; subst e2
    split at h
    · rename_i d hd hv; exact ⟨_, _, calm_len hC.ty ho hd hv (.inl ⟨rfl, rfl⟩), h⟩
    · rename_i d id hd hv
      split at h
      · rename_i own ks xs hob
        exact ⟨_, _, calm_len hC.ty ho hd hv (.inr (.inl ⟨_, _, _, _, rfl, hob, rfl⟩)), h⟩
      · cases h
    · rename_i d id st len cap hd hv; exact ⟨_, _, calm_len hC.ty ho hd hv (.inr (.inr ⟨_, _, _, rfl⟩)), h⟩
    · cases h
  · cases h

theorem s_min {args : Array Operand} {tys : Array TypeId} (ho : o.op = .call { callee := .builtin .min, args := args, argTypes := tys }) (h : calm cx o sl hp k e = some r) : Step P o sl hp k r := by
  simp only [calm, ho] at h
  split at h
  · rename_i x y hx
    have e1 := list_of_toList hx
    subst e1
    split at h
    · rename_i j a j' b hx hy
      simp only [chk_some, decide_eq_true_eq] at h
      obtain ⟨rfl, h⟩ := h
      exact ⟨_, _, calm_min ho hx hy, h⟩
    · cases h
  · cases h

theorem s_max {args : Array Operand} {tys : Array TypeId} (hC : CxOK P cx) (ho : o.op = .call { callee := .builtin .max, args := args, argTypes := tys }) (h : calm cx o sl hp k e = some r) : Step P o sl hp k r := by
  simp only [calm, ho] at h
  split at h
  · rename_i x y hx
    have e1 := list_of_toList hx
    subst e1
    split at h
    · rename_i j a j' b hx hy
      simp only [chk_some, decide_eq_true_eq] at h
      obtain ⟨rfl, h⟩ := h
      rw [hC.F] at h
      exact ⟨_, _, calm_max ho hx hy, h⟩
    · cases h
  · cases h

theorem s_append {args : Array Operand} {tys : Array TypeId} (hC : CxOK P cx) (ho : o.op = .call { callee := .builtin .append, args := args, argTypes := tys }) (h : calm cx o sl hp k e = some r) : Step P o sl hp k r := by
  simp only [calm, ho] at h
  split at h
  · rename_i x y t t' hx ht
    have e1 := list_of_toList hx
    have e2 := list_of_toList ht
    subst e1; subst e2
    rw [chk_some] at h
    obtain ⟨h1, h⟩ := h
    obtain rfl := Nat.eq_of_beq_eq_true h1
    split at h
    · rename_i et ya hd hv hy
      split at h
      · rename_i ei ys he hys
        split at h
        · rename_i ks hks
          simp only [chk_some, decide_eq_true_eq] at h
          obtain ⟨g1, g2, g3, g4⟩ := h
          exact ⟨_, _, calm_append hC.ty ho hd he hks hv hy hys g1 g2 (Nat.le_of_ble_eq_true g3), g4⟩
        · cases h
      · cases h
    · cases h
  · cases h

theorem F2.evals {ι : Nat → Pl} {S : Nat → Shp} {a : Act} : ∀ {xs : List Operand}, (∀ x ∈ xs, VR ι S (evA sl x) (a.eval x)) → F2 (VR ι S) (xs.map (evA sl)) (xs.map a.eval)
  | [], _ => trivial
  | x :: t, h => ⟨h x (by simp), F2.evals fun y hy => h y (by simp [hy])⟩

theorem F2.caps {ι : Nat → Pl} {S : Nat → Shp} : ∀ {caps : List (Nat × Nat × Nat)} {cs : List Value}, F2 (fun p c => PR ι S p.1 p.2.1 p.2.2 c) caps cs → F2 (VR ι S) (caps.map fun p => .at (.ptr p.1 p.2.1 p.2.2)) cs
  | [], [], _ => trivial
  | _ :: _, _ :: _, ⟨h1, h2⟩ => ⟨h1, F2.caps h2⟩
  | [], _ :: _, h => h.elim
  | _ :: _, [], h => h.elim

theorem s_call {x : Operand} {args : Array Operand} {tys : Array TypeId} (hC : CxOK P cx) (hE : ∀ f, cx.eff f = false) (ho : o.op = .call { callee := .value x, args := args, argTypes := tys }) (h : calm cx o sl hp k e = some r) : Step P o sl hp k r := by
  simp only [calm, ho] at h
  split at h
  · rename_i f caps hx
    unfold callF at h
    split at h
    rename_i args1 hpT hview
    dsimp only at h
    rw [hE f] at h
    dsimp only at h
    split at h
    · rename_i rv news hcall
      have hold := hC.calls _ _ _ _ _ hcall
      refine ⟨_, _, ?_, h⟩
      intro ι a w hops hhr K Q hK
      have hvx := hops x (by simp [ho, Op.operands, Call.operands])
      rw [hx] at hvx
      obtain ⟨cs, hev, hcaps⟩ := hvx
      have hargs : F2 (VR ι (shp hp)) (args.toList.map (evA sl) ++ caps.map fun p => .at (.ptr p.1 p.2.1 p.2.2)) (args.map a.eval ++ cs).toList := by
        rw [Array.toList_append, Array.toList_map]
        exact (F2.evals fun y hy => hops y (by simp [ho, Op.operands, Call.operands]; right; simpa using hy)).append hcaps.caps
      refine wp_call (f := f) (cs := args.map a.eval ++ cs) ?_ (call_ro hview hold hargs hhr) fun c w' ⟨ι', g1, g2, g3⟩ => hK ι' c w' g1 g2 g3
      simp [execOp, ho, resolve, hev, Deferred.ofValue, invoke]
    · cases h
  · cases h

/-- A calm step. -/
theorem calm_sound (hC : CxOK P cx) (hE : ∀ f, cx.eff f = false) (h : calm cx o sl hp k e = some r) : Step P o sl hp k r := by
  cases ho : o.op with
  | move x => simp only [calm, ho] at h; exact ⟨_, _, calm_move (.inl ho), h⟩
  | assign x => simp only [calm, ho] at h; exact ⟨_, _, calm_move (.inr ho), h⟩
  | alloc t =>
    simp only [calm, ho] at h
    split at h
    · rename_i i hi; exact ⟨_, _, calm_alloc (hC.ty t i hi) ho, h⟩
    · cases h
  | box t x =>
    simp only [calm, ho] at h
    split at h
    · rename_i i cs hi hc
      split at h
      · exact ⟨_, _, calm_box ho hc, h⟩
      · cases h
    · cases h
  | build t parts => exact s_build hC ho h
  | buildSlice t len parts => exact s_buildSlice hC ho h
  | load t x => exact s_load hC ho h
  | nilCheck x =>
    simp only [calm, ho] at h
    split at h
    · rename_i id el off hx; exact ⟨_, _, calm_nilCheck ho hx, h⟩
    · cases h
  | binOp op t x y q => exact s_bin hC ho h
  | unOp op t x => exact s_un hC ho h
  | convert src dst x => exact s_convert hC ho h
  | fieldAddr s x f =>
    simp only [calm, ho] at h
    split at h
    · rename_i fs id el off ht hx
      split at h
      · rename_i d ft hf; exact ⟨_, _, calm_fieldAddr hC.ty ho ht hx hf, h⟩
      · cases h
    · cases h
  | field s x f => exact s_field hC ho h
  | indexAddr t x ix => exact s_indexAddr hC ho h
  | index t x ix => exact s_index hC ho h
  | slice t x lo hi mx => exact s_slice hC ho h
  | extract t ix =>
    simp only [calm, ho] at h
    split at h
    · rename_i xs hx
      split at h
      · rename_i x hxx; exact ⟨_, _, calm_extract ho hx hxx, h⟩
      · cases h
    · cases h
  | makeFunc f first caps =>
    cases f with
    | func f =>
      simp only [calm, ho] at h
      split at h
      · rename_i h0
        split at h
        · rename_i cs hc; exact ⟨_, _, calm_makeFunc ho h0 hc, h⟩
        · cases h
      · cases h
    | _ => simp only [calm, ho] at h; cases h
  | makeSlice t x y => exact s_makeSlice hC ho h
  | call c =>
    obtain ⟨callee, args, tys⟩ := c
    cases callee with
    | value x => exact s_call hC hE ho h
    | invoke x n => simp only [calm, ho] at h; cases h
    | builtin b =>
      cases b with
      | len => exact s_len hC ho h
      | min => exact s_min ho h
      | max => exact s_max hC ho h
      | append => exact s_append hC ho h
      | _ => simp only [calm, ho] at h; cases h
  | _ => simp only [calm, ho] at h; cases h
end Go.Fx
