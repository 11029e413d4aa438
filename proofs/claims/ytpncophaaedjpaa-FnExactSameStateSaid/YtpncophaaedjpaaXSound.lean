/- Every calm step of the evaluator is one. -/
import Derived.Test.YtpncophaaedjpaaXEff4
namespace Go.Fx
variable {P : Program} {sl : List V} {hp : List Ob}

theorem chk_some {α : Type} {b : Bool} {x : Option α} {r : α} : chk b x = some r ↔ b = true ∧ x = some r := by
  cases b <;> simp [chk]

def CallsOK (P : Program) (cx : Cx) : Prop := ∀ (f : FuncId) (args : List V) (h : List Ob) (r : V) (news : List Ob), cx.call f args h = some ⟨r, none, news⟩ → Holds P f args h r news

structure CxOK (P : Program) (cx : Cx) : Prop where
  F : cx.F = real
  ty : TyOK P cx.ty
  calls : CallsOK P cx

def Step (P : Program) (o : Oper) (sl : List V) (hp : List Ob) {α : Type} (k : V → List Ob → Option α) (r : α) : Prop := ∃ v news, CalmOp P o sl hp v news ∧ k v news = some r

variable {cx : Cx} {o : Oper} {α : Type} {k e : V → List Ob → Option α} {r : α}

theorem obKs_shp {id : Nat} {ks : List K} (h : obKs hp id = some ks) : shp hp id = .rows ks (obLen hp id) := by
  unfold obKs at h
  unfold shp obLen
  split at h
  · rename_i own ks' xs ho
    simp only [Option.some.injEq] at h
    subst h
    rw [ho]; rfl
  · cases h

theorem s_build {t : TypeId} {parts : Array (Nat × Operand)} (hC : CxOK P cx) (ho : o.op = .build t parts) (h : calm cx o sl hp k e = some r) : Step P o sl hp k r := by
  simp only [calm, ho] at h
  split at h
  · rename_i i hi
    split at h
    · rename_i fs hd
      split at h
      · rename_i cs hf
        exact ⟨_, _, calm_build hC.ty ho hi (by rw [hd]; exact hf), h⟩
      · cases h
    · rename_i n et hd
      split at h
      · rename_i ei he
        split at h
        · rename_i cs hf
          exact ⟨_, _, calm_build hC.ty ho hi (by rw [hd]; simp only [he]; exact hf), h⟩
        · cases h
      · cases h
    · cases h
  · cases h

theorem s_buildSlice {t : TypeId} {len : Nat} {parts : Array (Nat × Operand)} (hC : CxOK P cx) (ho : o.op = .buildSlice t len parts) (h : calm cx o sl hp k e = some r) : Step P o sl hp k r := by
  simp only [calm, ho] at h
  split at h
  · rename_i et ht
    split at h
    · rename_i ei he
      split at h
      · rename_i ks hks
        split at h
        · rename_i h0
          exact ⟨_, _, calm_buildSlice0 hC.ty ho ht he h0, h⟩
        · cases h
        · rename_i len1 len0 x2 hl1 hl2
          split at h
          · rename_i cs hb1 hb2 hf
            split at h
            · rename_i ns hns
              have hlen : 0 < len1 := Nat.pos_of_ne_zero hl1
              exact ⟨_, _, calm_buildSlice hC.ty ho ht he hks hlen (by simpa [Nat.blt_eq] using hb2) (Nat.le_of_ble_eq_true hb1) hf hns, h⟩
            · cases h
          · cases h
      · cases h
    · cases h
  · cases h

theorem s_load {t : TypeId} {x : Operand} (hC : CxOK P cx) (ho : o.op = .load t x) (h : calm cx o sl hp k e = some r) : Step P o sl hp k r := by
  simp only [calm, ho] at h
  split at h
  · rename_i id el off i hx hi
    split at h
    · rename_i ob hob
      split at h
      · rename_i v hl
        refine ⟨_, _, calm_value fun ι a w hops hhr => ?_, h⟩
        have hv := hops x (by simp [ho, Op.operands])
        rw [hx] at hv
        have hpr : PR ι (shp hp) id el off (a.eval x) := hv
        have hoff : ι id ≠ .off := by
          obtain ⟨b, base, room, h1, _⟩ := hpr
          rw [h1]; simp
        obtain ⟨q, h1, h2⟩ := load_sound (P := P) (hC.ty t i hi) (hhr id ob hob hoff) (shp_of hob) hpr (v := v) (by cases hd : i.d <;> rw [hd] at hl <;> exact hl)
        exact ⟨q, 0, by rw [World.drewN_zero]; simp [execOp, ho, h1], h2⟩
      · cases h
    · cases h
  · cases h

theorem s_bin {op : BinOp} {t : TypeId} {x y : Operand} {q : TypeId} (hC : CxOK P cx) (ho : o.op = .binOp op t x y q) (h : calm cx o sl hp k e = some r) : Step P o sl hp k r := by
  simp only [calm, ho] at h
  split at h
  · rename_i a b hx hy
    rw [hC.F] at h
    obtain ⟨z, hz, hr⟩ := binA_sound (P := P) (t := t) (fun htb => by
      split at htb
      · rename_i hd; exact tyOf_DR hC.ty hd
      · cases htb) h
    refine ⟨_, _, calm_value fun ι ac w hops hhr => ?_, hz⟩
    have hvx := hops x (by simp [ho, Op.operands])
    have hvy := hops y (by simp [ho, Op.operands])
    rw [hx] at hvx; rw [hy] at hvy
    obtain ⟨qv, n, h1, h2⟩ := hr ι (shp hp) _ _ x y w hvx hvy
    exact ⟨qv, n, by simp only [execOp, ho, Sem.run_bind, h1, Result.andThen_ok, Sem.run_pure], h2⟩
  · cases h

theorem s_un {op : UnOp} {t : TypeId} {x : Operand} (hC : CxOK P cx) (ho : o.op = .unOp op t x) (h : calm cx o sl hp k e = some r) : Step P o sl hp k r := by
  simp only [calm, ho] at h
  split at h
  · rename_i a hx
    rw [hC.F] at h
    obtain ⟨z, hz, hr⟩ := unA_sound (P := P) h
    refine ⟨_, _, calm_value fun ι ac w hops hhr => ?_, hz⟩
    have hvx := hops x (by simp [ho, Op.operands])
    rw [hx] at hvx
    obtain ⟨qv, h1, h2⟩ := hr ι (shp hp) _ w hvx
    exact ⟨qv, 0, by rw [World.drewN_zero]; simp only [execOp, ho, Sem.run_bind, h1, Result.andThen_ok, Sem.run_pure], h2⟩
  · cases h

theorem s_convert {src dst : TypeId} {x : Operand} (hC : CxOK P cx) (ho : o.op = .convert src dst x) (h : calm cx o sl hp k e = some r) : Step P o sl hp k r := by
  simp only [calm, ho] at h
  split at h
  · rename_i a hx
    rw [hC.F] at h
    obtain ⟨z, hz, hr⟩ := convA_sound (P := P) hC.ty h
    refine ⟨_, _, calm_value fun ι ac w hops hhr => ?_, hz⟩
    have hvx := hops x (by simp [ho, Op.operands])
    rw [hx] at hvx
    obtain ⟨qv, n, h1, h2⟩ := hr ι (shp hp) _ w hvx
    exact ⟨qv, n, by simp only [execOp, ho, Sem.run_bind, h1, Result.andThen_ok, Sem.run_pure], h2⟩
  · cases h

theorem s_field {s : TypeId} {x : Operand} {f : Nat} (hC : CxOK P cx) (ho : o.op = .field s x f) (h : calm cx o sl hp k e = some r) : Step P o sl hp k r := by
  simp only [calm, ho] at h
  split at h
  · rename_i fs as ht hx
    split at h
    · rename_i d ft hf
      split at h
      · rename_i i hi
        split at h
        · rename_i hd; exact ⟨_, _, calm_field hC.ty ho ht hx hf hi (.inl ⟨by rw [hd]; rfl, rfl⟩), h⟩
        · rename_i hd; exact ⟨_, _, calm_field hC.ty ho ht hx hf hi (.inl ⟨by rw [hd]; rfl, rfl⟩), h⟩
        · rename_i hn1 hn2
          split at h
          · rename_i a ha
            refine ⟨_, _, calm_field hC.ty ho ht hx hf hi (.inr ⟨?_, a, ha, rfl⟩), h⟩
            cases hd : i.d with
            | st fs => exact absurd hd (hn1 _)
            | ar n e => exact absurd hd (hn2 _ _)
            | sc k => rfl
            | sl e => rfl
            | oth => rfl
          · cases h
      · cases h
    · cases h
  · cases h

theorem s_indexAddr {t : TypeId} {x ix : Operand} (hC : CxOK P cx) (ho : o.op = .indexAddr t x ix) (h : calm cx o sl hp k e = some r) : Step P o sl hp k r := by
  simp only [calm, ho] at h
  split at h
  · rename_i et id kk n ht hx hix
    split at h
    · rename_i ei ks he hks
      simp only [chk_some, decide_eq_true_eq] at h
      obtain ⟨h1, h2, h3, h4⟩ := h
      have hS := obKs_shp hks
      have := calm_indexAddr (P := P) (sl := sl) (hp := hp) (st := 0) (len := obLen hp id) hC.ty ho ht he (Nat.eq_of_beq_eq_true h1) hS hix h2 h3 (fun ι c hv => by
        rw [hx] at hv
        obtain ⟨ks', m, g1, g2⟩ := hv
        rw [hS] at g1
        simp only [Shp.rows.injEq] at g1
        obtain ⟨rfl, rfl⟩ := g1
        refine ⟨by omega, ?_⟩
        rcases g2 with ⟨_, g3, _⟩ | ⟨b, base, room, cap, g3, g4, _⟩
        · omega
        · exact ⟨b, base, room, cap, g3, by simpa using g4⟩)
      rw [Nat.zero_add] at this
      exact ⟨_, _, this, h4⟩
    · cases h
  · rename_i et id st len cap kk n ht hx hix
    split at h
    · rename_i ei ks he hks
      simp only [chk_some, decide_eq_true_eq] at h
      obtain ⟨h1, h2, h3, h4⟩ := h
      have hS := obKs_shp hks
      refine ⟨_, _, calm_indexAddr (P := P) (sl := sl) (hp := hp) (st := st) (len := len) hC.ty ho ht he (Nat.eq_of_beq_eq_true h1) hS hix h2 h3 (fun ι c hv => ?_), h4⟩
      rw [hx] at hv
      obtain ⟨ks', m, g1, g2, a, cp, g3, g4, g5, g6, g7⟩ := hv
      rw [hS] at g1
      simp only [Shp.rows.injEq] at g1
      obtain ⟨rfl, rfl⟩ := g1
      refine ⟨g2, ?_⟩
      rcases g7 with g7 | ⟨b, base, room, q1, q2, q3⟩
      · omega
      · exact ⟨b, base, room, cp, q1, by rw [g3, q2]⟩
    · cases h
  · rename_i len et id kk n ht hx hix
    split at h
    · rename_i kd ei hks he
      simp only [chk_some, decide_eq_true_eq] at h
      obtain ⟨h1, h2, h3, h4, h5⟩ := h
      exact ⟨_, _, calm_indexAddrArr hC.ty ho ht he (Nat.eq_of_beq_eq_true h1) (obKs_shp hks) hix h2 h3 (Nat.eq_of_beq_eq_true h4) hx, h5⟩
    · cases h
  · cases h

theorem s_index {t : TypeId} {x ix : Operand} (hC : CxOK P cx) (ho : o.op = .index t x ix) (h : calm cx o sl hp k e = some r) : Step P o sl hp k r := by
  simp only [calm, ho] at h
  split at h
  · rename_i len et as kk n ht hx hix
    split at h
    · rename_i ei he
      split at h
      · rename_i kd hd
        simp only [chk_some, decide_eq_true_eq] at h
        obtain ⟨h1, h2, h3, h4⟩ := h
        split at h4
        · rename_i a ha
          exact ⟨_, _, calm_index hC.ty ho ht he hd (Nat.eq_of_beq_eq_true h1) hx hix h2 h3 ha, h4⟩
        · cases h4
      · cases h
    · cases h
  · cases h

theorem s_makeSlice {t : TypeId} {x y : Operand} (hC : CxOK P cx) (ho : o.op = .makeSlice t x y) (h : calm cx o sl hp k e = some r) : Step P o sl hp k r := by
  simp only [calm, ho] at h
  split at h
  · rename_i et kx n ky c ht hx hy
    split at h
    · rename_i ei he
      split at h
      · rename_i ks z hks hz
        simp only [chk_some, decide_eq_true_eq] at h
        obtain ⟨h1, h2, h3, h4, h5, h6⟩ := h
        have hnc : n = c := by simpa using h2
        subst hnc
        rw [hks] at hz
        exact ⟨_, _, calm_makeSlice hC.ty ho ht he hks hz hx hy h1 h3 (Nat.le_of_ble_eq_true h4) (by simpa [Nat.blt_eq] using h5), h6⟩
      · cases h
    · cases h
  · cases h

theorem s_slice {t : TypeId} {x : Operand} {lo hi mx : Option Operand} (hC : CxOK P cx) (ho : o.op = .slice t x lo hi mx) (h : calm cx o sl hp k e = some r) : Step P o sl hp k r := by
  simp only [calm, ho] at h
  split at h
  · rename_i et ht
    split at h
    · rename_i ei hh m he hx
      split at h
      · rename_i kh km h1 h2
        exact ⟨_, _, calm_slice00 hC.ty ho ht he hx (.inl rfl) h1 h2, h⟩
      · cases h
    · rename_i ei id hh m he hx
      split at h
      · rename_i kh km h1 h2
        exact ⟨_, _, calm_slice00 hC.ty ho ht he hx (.inr ⟨id, rfl⟩) h1 h2, h⟩
      · cases h
    · rename_i lo0 hi0 mx0 ei id he hx
      split at h
      · rename_i ks hks
        have hS := obKs_shp hks
        simp only [chk_some] at h
        obtain ⟨hb, h⟩ := h
        have hb' := Nat.eq_of_beq_eq_true hb
        have hks' : ∀ (l h : Nat), l ≤ h → h ≤ obLen hp id → ∀ ks' n, shp hp id = .rows ks' n → ks'.length = ei.size ∧ h ≤ n := fun l h _ hh ks' n hr => by
          rw [hS] at hr
          simp only [Shp.rows.injEq] at hr
          obtain ⟨rfl, rfl⟩ := hr
          exact ⟨hb', hh⟩
        split at h
        · rename_i l
          split at h
          · rename_i kl l' hl
            simp only [chk_some, decide_eq_true_eq] at h
            obtain ⟨h1, h2, h3⟩ := h
            refine ⟨_, _, calm_slice (l := l'.toNat) (h := obLen hp id) hC.ty ho ht he (fun ks' n hr => ?_) hx (by omega) (.inr ⟨l, kl, rfl, by rw [hl, Int.toNat_of_nonneg h1]⟩) (.inl rfl), h3⟩
            obtain ⟨g1, g2⟩ := hks' l'.toNat (obLen hp id) (by omega) (Nat.le_refl _) ks' n hr
            rw [hS] at hr
            simp only [Shp.rows.injEq] at hr
            exact ⟨g1, g2, fun _ => hr.2⟩
          · cases h
        · rename_i h0
          split at h
          · rename_i kh h' hh
            simp only [chk_some, decide_eq_true_eq] at h
            obtain ⟨h1, h2, h3⟩ := h
            refine ⟨_, _, calm_slice (l := 0) (h := h'.toNat) hC.ty ho ht he (fun ks' n hr => ?_) hx (by omega) (.inl ⟨rfl, rfl⟩) (.inr ⟨h0, kh, rfl, by rw [hh, Int.toNat_of_nonneg h1]⟩), h3⟩
            obtain ⟨g1, g2⟩ := hks' 0 h'.toNat (by omega) (by omega) ks' n hr
            exact ⟨g1, g2, fun h => by cases h⟩
          · cases h
        · rename_i l h0
          split at h
          · rename_i kl l' kh h' hl hh
            simp only [chk_some, decide_eq_true_eq] at h
            obtain ⟨h1, h2, h3, h4⟩ := h
            refine ⟨_, _, calm_slice (l := l'.toNat) (h := h'.toNat) hC.ty ho ht he (fun ks' n hr => ?_) hx (by omega) (.inr ⟨l, kl, rfl, by rw [hl, Int.toNat_of_nonneg h1]⟩) (.inr ⟨h0, kh, rfl, by rw [hh, Int.toNat_of_nonneg (by omega)]⟩), h4⟩
            obtain ⟨g1, g2⟩ := hks' l'.toNat h'.toNat (by omega) (by omega) ks' n hr
            exact ⟨g1, g2, fun h => by cases h⟩
          · cases h
        · refine ⟨_, _, calm_slice (l := 0) (h := obLen hp id) hC.ty ho ht he (fun ks' n hr => ?_) hx (by omega) (.inl ⟨rfl, rfl⟩) (.inl rfl), h⟩
          obtain ⟨g1, g2⟩ := hks' 0 (obLen hp id) (by omega) (Nat.le_refl _) ks' n hr
          rw [hS] at hr
          simp only [Shp.rows.injEq] at hr
          exact ⟨g1, g2, fun _ => hr.2⟩
      · cases h
    · cases h
  · rename_i len et ht
    split at h
    · rename_i ei id he hx
      split at h
      · rename_i kd xs hob
        simp only [chk_some] at h
        obtain ⟨h1, h2, h3⟩ := h
        exact ⟨_, _, calm_sliceArr hC.ty ho ht he hx hob (Nat.eq_of_beq_eq_true h1) (Nat.le_of_ble_eq_true h2), h3⟩
      · cases h
    · cases h
  · cases h
end Go.Fx
