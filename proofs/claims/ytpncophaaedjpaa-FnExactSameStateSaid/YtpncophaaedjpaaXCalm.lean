/- Calm operations, one kind after another. -/
import Derived.Test.YtpncophaaedjpaaXOps
import Derived.Laws.Tables
import Derived.Laws.BitsAllLaws
namespace Go.Fx

variable {P : Program} {ty : Nat → Option TI} {sl : List V} {hp : List Ob}

theorem calm_move {o : Oper} {x : Operand} (ho : o.op = .move x ∨ o.op = .assign x) : CalmOp P o sl hp (evA sl x) [] := by
  refine calm_value fun ι a w hops _ => ⟨a.eval x, 0, ?_, ?_⟩
  · rcases ho with ho | ho <;> simp [execOp, ho, World.drewN_zero]
  · apply hops; rcases ho with ho | ho <;> simp [ho, Op.operands]

/-! ### numbers -/
theorem intBin_sound {α : Type} {op : BinOp} {k : IntKind} {a b : Int} {c : A → Option α} {r : α} (h : intBin op k a b c = some r) :
    ∃ x, c x = some r ∧ ∀ (t : TypeId) (w : World), ∃ v, (binOp op t (.int k a) (.int k b)).run P w = .ok v w ∧ ∀ ι S, AR ι S x v := by
  cases op <;> simp only [intBin] at h
  case add => exact ⟨_, h, fun t w => ⟨.int k (k.wrap (a + b)), by simp [binOp, Op.intArith], fun _ _ => rfl⟩⟩
  case sub => exact ⟨_, h, fun t w => ⟨.int k (k.wrap (a - b)), by simp [binOp, Op.intArith], fun _ _ => rfl⟩⟩
  case mul => exact ⟨_, h, fun t w => ⟨.int k (k.wrap (a * b)), by simp [binOp, Op.intArith], fun _ _ => rfl⟩⟩
  case quo =>
    cases hb : (b == 0) with
    | true => simp [chk, hb] at h
    | false =>
      have hb' : b ≠ 0 := by simpa using hb
      simp only [chk, hb, Bool.not_false] at h
      exact ⟨_, h, fun t w => ⟨.int k (k.wrap (a.tdiv b)), by simp [binOp, Op.intDiv, hb'], fun _ _ => rfl⟩⟩
  case rem =>
    cases hb : (b == 0) with
    | true => simp [chk, hb] at h
    | false =>
      have hb' : b ≠ 0 := by simpa using hb
      simp only [chk, hb, Bool.not_false] at h
      exact ⟨_, h, fun t w => ⟨.int k (a.tmod b), by simp [binOp, Op.intDiv, hb'], fun _ _ => rfl⟩⟩
  case eql => exact ⟨_, h, fun t w => ⟨.bool (a == b), by simp [binOp, Op.intCmp], fun _ _ => rfl⟩⟩
  case neq => exact ⟨_, h, fun t w => ⟨.bool (a != b), by simp [binOp, Op.intCmp], fun _ _ => rfl⟩⟩
  case lss => exact ⟨_, h, fun t w => ⟨.bool (decide (a < b)), by simp [binOp, Op.intCmp], fun _ _ => rfl⟩⟩
  case leq => exact ⟨_, h, fun t w => ⟨.bool (decide (a ≤ b)), by simp [binOp, Op.intCmp], fun _ _ => rfl⟩⟩
  case gtr => exact ⟨_, h, fun t w => ⟨.bool (decide (a > b)), by simp [binOp, Op.intCmp], fun _ _ => rfl⟩⟩
  case geq => exact ⟨_, h, fun t w => ⟨.bool (decide (a ≥ b)), by simp [binOp, Op.intCmp], fun _ _ => rfl⟩⟩
  all_goals cases h

theorem run_bool_equal (t : TypeId) (a b : Bool) (w : World) (hb : P.underlying t = some .bool) : (Op.equal t (.bool a) (.bool b)).run P w = .ok (a == b) w := by
  have h := run_underlying hb w
  rw [show Op.equal t (.bool a) (.bool b) = Op.equalIn (9999 + 1) t (.bool a) (.bool b) from rfl, Op.equalIn]
  simp [h]
theorem run_bool_eql (t : TypeId) (a b : Bool) (w : World) (hb : P.underlying t = some .bool) : (binOp .eql t (.bool a) (.bool b)).run P w = .ok (.bool (a == b)) w := by
  have h := run_bool_equal t a b w hb
  show (Op.equal t (.bool a) (.bool b) >>= fun r => pure (Value.bool r) : Sem Value).run P w = _
  simp [h]
theorem run_bool_neq (t : TypeId) (a b : Bool) (w : World) (hb : P.underlying t = some .bool) : (binOp .neq t (.bool a) (.bool b)).run P w = .ok (.bool (!(a == b))) w := by
  have h := run_bool_equal t a b w hb
  show (Op.equal t (.bool a) (.bool b) >>= fun r => pure (Value.bool (!r)) : Sem Value).run P w = _
  simp [h]

theorem bits_mod (k : FloatKind) (b : Nat) (m : Int) : bits .andNot (rawKind k) b m = bits .andNot (rawKind k) (b % 2 ^ k.format.width : Nat) m := by
  cases k
  · have e2 : (2 : Nat) ^ FloatKind.f32.format.width = 4294967296 := by decide
    rw [e2]
    show IntKind.u32.wrap ((BitVec.ofInt 32 (b : Int) &&& ~~~BitVec.ofInt 32 m).toNat : Int) = IntKind.u32.wrap ((BitVec.ofInt 32 ((b % 4294967296 : Nat) : Int) &&& ~~~BitVec.ofInt 32 m).toNat : Int)
    have : BitVec.ofInt 32 (b : Int) = BitVec.ofInt 32 ((b % 4294967296 : Nat) : Int) := by
      rw [BitVec.ofInt_natCast, BitVec.ofInt_natCast]
      apply BitVec.eq_of_toNat_eq
      simp
    rw [this]
  · have e2 : (2 : Nat) ^ FloatKind.f64.format.width = 18446744073709551616 := by decide
    rw [e2]
    show IntKind.u64.wrap ((BitVec.ofInt 64 (b : Int) &&& ~~~BitVec.ofInt 64 m).toNat : Int) = IntKind.u64.wrap ((BitVec.ofInt 64 ((b % 18446744073709551616 : Nat) : Int) &&& ~~~BitVec.ofInt 64 m).toNat : Int)
    have : BitVec.ofInt 64 (b : Int) = BitVec.ofInt 64 ((b % 18446744073709551616 : Nat) : Int) := by
      rw [BitVec.ofInt_natCast, BitVec.ofInt_natCast]
      apply BitVec.eq_of_toNat_eq
      simp
    rw [this]

theorem raw_abs0 (k : FloatKind) (b : Nat) (hb : b < 2 ^ k.format.width) :
    bits .andNot (rawKind k) b (bAnd k) = ((b % k.format.signWeight : Nat) : Int) := by
  cases k
  · have e1 : FloatKind.f32.format.signWeight = 2147483648 := by decide
    have e2 : (2 : Nat) ^ FloatKind.f32.format.width = 4294967296 := by decide
    rw [e1]
    rw [e2] at hb
    have h := u32_andNot_nat b 2147483648 hb (by omega)
    refine h.trans ?_
    rw [show (4294967295 - 2147483648 : Nat) = 2 ^ 31 - 1 from by decide, Nat.and_two_pow_sub_one_eq_mod]
  · have e1 : FloatKind.f64.format.signWeight = 9223372036854775808 := by decide
    have e2 : (2 : Nat) ^ FloatKind.f64.format.width = 18446744073709551616 := by decide
    rw [e1]
    rw [e2] at hb
    have h := u64_andNot_nat b 9223372036854775808 hb (by omega)
    refine h.trans ?_
    rw [show (18446744073709551615 - 9223372036854775808 : Nat) = 2 ^ 63 - 1 from by decide, Nat.and_two_pow_sub_one_eq_mod]

theorem raw_abs (k : FloatKind) (b : Nat) : bits .andNot (rawKind k) b (bAnd k) = ((b % k.format.signWeight : Nat) : Int) := by
  rw [bits_mod, raw_abs0 k _ (Nat.mod_lt _ (Nat.two_pow_pos _))]
  congr 1
  cases k
  · show b % 2 ^ 32 % 2147483648 = b % 2147483648
    omega
  · show b % 2 ^ 64 % 9223372036854775808 = b % 9223372036854775808
    omega

theorem isNaNb_mod (k : FloatKind) (b : Nat) : isNaNb k (b % k.format.signWeight) = isNaNb k b := by
  unfold isNaNb Ieee.Format.read
  simp only [Nat.mod_mod]
  split
  · rfl
  · split
    · rfl
    · split <;> rfl

theorem nanOf_lt (k : FloatKind) : nanOf k < k.format.signWeight := by cases k <;> decide

theorem rAbs_cf (k : FloatKind) (b : Nat) : rAbs k (cf k b : Nat) = (cf k (b % k.format.signWeight) : Nat) := by
  unfold rAbs
  simp only [Int.toNat_natCast]
  by_cases h : isNaNb k b = true
  · rw [cf_of_nan h, cf_of_nan (b := b % _) (by rw [isNaNb_mod, h]), Nat.mod_eq_of_lt (nanOf_lt k), cf_of_nan (isNaNb_nanOf k)]
  · rw [cf_of_num (b := b) (by simpa using h)]

theorem num_real {k : FloatKind} {b : Nat} (h : num real k (cf k b : Nat) = true) : isNaNb k b = false := by
  cases hn : isNaNb k b with
  | false => rfl
  | true =>
    have : real.cmp .neq k (cf k b : Nat) (cf k b : Nat) = true := by
      show rCmp .neq k _ _ = true
      unfold rCmp
      rw [Int.toNat_natCast, order_cf, order_nan_left hn]
      rfl
    unfold num at h
    rw [this] at h
    cases h

theorem binA_sound {α : Type} {tb : Bool} {op : BinOp} {x y : A} {c : A → Option α} {r : α} {t : TypeId} (hty : tb = true → P.underlying t = some .bool)
    (h : binA real tb op x y c = some r) :
    ∃ z, c z = some r ∧ ∀ (ι : Nat → Pl) (S : Nat → Shp) (u v : Value) (X Y : Operand) (w : World), AR ι S x u → AR ι S y v → ∃ q n, ((do eqGuard op t X Y u v; binOp op t u v) : Sem Value).run P w = .ok q (w.drewN n) ∧ AR ι S z q := by
  unfold binA at h
  split at h
  · rename_i k a k' b
    by_cases hk : k = k'
    · subst hk
      simp only [decide_true, chk] at h
      obtain ⟨z, hz, hr⟩ := intBin_sound (P := P) h
      refine ⟨z, hz, fun ι S u v X Y w hu hv => ?_⟩
      obtain rfl := hu; obtain rfl := hv
      obtain ⟨q, hq, ha⟩ := hr t w
      exact ⟨q, 0, by rw [eqGuard_at_int, World.drewN_zero]; simpa using hq, ha ι S⟩
    · simp [hk, chk] at h
  · rename_i k a k' b
    by_cases hk : k = k'
    · subst hk
      simp only [decide_true, chk] at h
      cases ha : isArith op with
      | true =>
        simp only [ha] at h
        refine ⟨_, h, fun ι S u v X Y w hu hv => ?_⟩
        obtain ⟨p, rfl, rfl⟩ := hu
        obtain ⟨q, rfl, rfl⟩ := hv
        obtain ⟨s, n, hs, hc⟩ := run_arith (P := P) op t k p q w ha
        exact ⟨_, n, by rw [eqGuard_at_float]; simpa using hs, s, rfl, hc.symm⟩
      | false =>
        simp only [ha] at h
        cases hcm : isCmp op with
        | false => simp [hcm] at h
        | true =>
          simp only [hcm] at h
          refine ⟨_, h, fun ι S u v X Y w hu hv => ?_⟩
          obtain ⟨p, rfl, rfl⟩ := hu
          obtain ⟨q, rfl, rfl⟩ := hv
          have hs := run_cmp (P := P) op t k p q w hcm
          exact ⟨.bool (rCmp op k (cf k p : Nat) (cf k q : Nat)), 0, by rw [eqGuard_at_float, World.drewN_zero]; simpa using hs, rfl⟩
    · simp [hk, chk] at h
  · rename_i a b
    split at h
    · have hb := hty rfl
      refine ⟨_, h, fun ι S u v X Y w hu hv => ?_⟩
      obtain rfl := hu; obtain rfl := hv
      exact ⟨_, 0, by rw [eqGuard_at_bool, World.drewN_zero]; simpa using run_bool_eql t a b w hb, rfl⟩
    · have hb := hty rfl
      refine ⟨_, h, fun ι S u v X Y w hu hv => ?_⟩
      obtain rfl := hu; obtain rfl := hv
      exact ⟨_, 0, by rw [eqGuard_at_bool, World.drewN_zero]; simpa using run_bool_neq t a b w hb, rfl⟩
    · cases h
  · rename_i k a kk m
    split at h
    · by_cases hkk : kk = rawKind k
      · subst hkk
        by_cases hm : m = bAnd k
        · subst hm
          simp only [BEq.rfl, chk, decide_true] at h
          refine ⟨_, h, fun ι S u v X Y w hu hv => ?_⟩
          obtain ⟨p, rfl, rfl⟩ := hu
          obtain rfl := hv
          refine ⟨.int (rawKind k) ((p % k.format.signWeight : Nat) : Int), 0, ?_, p % k.format.signWeight, rfl, rAbs_cf k p⟩
          rw [eqGuard_at_int, World.drewN_zero]
          have := raw_abs k p
          simp [binOp, intBits_andNot, this]
        · have : (m == bAnd k) = false := by simpa using hm
          simp [this, chk] at h
      · simp [hkk, chk] at h
    · cases h
  · rename_i k a k' b
    split at h
    · by_cases hk : k = k'
      · subst hk
        cases h1 : num real k a with
        | false => simp [h1, chk] at h
        | true =>
          cases h2 : num real k b with
          | false => simp [h1, h2, chk] at h
          | true =>
            simp only [h1, h2, chk, decide_true] at h
            refine ⟨_, h, fun ι S u v X Y w hu hv => ?_⟩
            obtain ⟨p, rfl, rfl⟩ := hu
            obtain ⟨q, rfl, rfl⟩ := hv
            have h1 := num_real h1
            have h2 := num_real h2
            refine ⟨.bool ((p : Int) == (q : Int)), 0, ?_, ?_⟩
            · rw [eqGuard_at_int, World.drewN_zero]
              simp [binOp, Op.intCmp]
            · rw [cf_of_num h1, cf_of_num h2]; rfl
      · simp [hk, chk] at h
    · cases h
  · cases h

/-! ### conversions -/
theorem floatToIntVal_cf (s : FloatKind) (b : Nat) (d : IntKind) : floatToIntVal s (cf s b) d = floatToIntVal s b d := by
  by_cases h : isNaNb s b = true
  · obtain ⟨g, t, hr⟩ := read_nan h
    obtain ⟨g', t', hr'⟩ := read_nan (b := cf s b) (by rw [isNaNb_cf, h])
    unfold floatToIntVal
    simp only [FloatKind.decode, hr, hr']
    rfl
  · rw [cf_of_num (by simpa using h)]

theorem run_float_float {P : Program} (src dst : TypeId) (s k : FloatKind) (b : Nat) (w : World) (hs : (P.underlying src).isSome = true) (hd : P.underlying dst = some (.float k))
    (hok : rConvOk s k (cf s b : Nat) = true) :
    ∃ r n, (convert src dst (.float s b)).run P w = .ok (.float k r) (w.drewN n) ∧ (cf k r : Int) = rConv s k (cf s b : Nat) := by
  obtain ⟨u, hs'⟩ := Option.isSome_iff_exists.1 hs
  have e1 := run_underlying hs' w
  have e2 := run_underlying hd w
  by_cases hsk : s = k
  · subst hsk
    refine ⟨b, 0, ?_, by simp [rConv]⟩
    rw [World.drewN_zero]
    cases u <;> simp [convert, e1, e2, Conv.floatToFloat]
  · cases hn : isNaNb s b with
    | true =>
      obtain ⟨g, t, hr⟩ := read_nan hn
      obtain ⟨g', t', hr'⟩ := read_nan (b := cf s b) (by rw [isNaNb_cf, hn])
      have hc := run_choose (P := P) (.nanConv k b) w rfl
      refine ⟨(Question.nanConv k b).cut (w.tape w.drawn (.nanConv k b)), 1, ?_, ?_⟩
      · cases u <;> simp [convert, e1, e2, Conv.floatToFloat, hsk, FloatKind.decode, hr, hc, World.drew_is_drewN]
      · rw [cf_of_nan (cut_nanConv ..)]
        simp [rConv, hsk, FloatKind.decode, hr']
    | false =>
      rw [cf_of_num hn] at hok ⊢
      simp only [rConvOk, rConv, hsk, if_false, Int.toNat_natCast] at hok ⊢
      cases hd' : s.decode b with
      | nan g t => simp [isNaNb, FloatKind.decode] at hn hd'; rw [hd'] at hn; cases hn
      | infinity g =>
        simp only
        refine ⟨k.encode (.infinity g), 0, ?_, by rw [show k.encode _ = k.format.write _ from rfl, cf_of_num (write_notNaN k _ rfl)]⟩
        rw [World.drewN_zero]
        cases u <;> simp [convert, e1, e2, Conv.floatToFloat, hsk, hd']
      | number g m e =>
        simp only [hd'] at hok ⊢
        refine ⟨k.encode (.number g m e), 0, ?_, by rw [show k.encode _ = k.format.write _ from rfl, cf_of_num (write_notNaN k _ rfl)]⟩
        have hok' : (k.decode (k.encode (.number g m e))).isInfinity = false := by simpa using hok
        rw [World.drewN_zero]
        cases u <;> simp [convert, e1, e2, Conv.floatToFloat, hsk, hd', hok']

theorem convA_sound {α : Type} {src dst : TypeId} {x : A} {c : A → Option α} {r : α} (hT : TyOK P ty) (h : convA real (tyOf ty src) (tyOf ty dst) x c = some r) :
    ∃ z, c z = some r ∧ ∀ (ι : Nat → Pl) (S : Nat → Shp) (u : Value) (w : World), AR ι S x u → ∃ q n, (convert src dst u).run P w = .ok q (w.drewN n) ∧ AR ι S z q := by
  have hd : ∀ t d, tyOf ty t = some d → DR P t d := by
    intro t d h
    unfold tyOf at h
    cases hi : ty t with
    | none => simp [hi] at h
    | some i => simp [hi] at h; subst h; exact (hT t i hi).d
  have hsc : ∀ t k, tyOf ty t = some (.sc k) → (P.underlying t).isSome = true := by
    intro t k h
    have := hd t _ h
    cases k <;> (simp only [DR] at this; simp [this])
  have hi : ∀ t k, tyOf ty t = some (.sc (.i k)) → P.underlying t = some (.int k) := fun t k h => hd t _ h
  have hf : ∀ t k, tyOf ty t = some (.sc (.f k)) → P.underlying t = some (.float k) := fun t k h => hd t _ h
  generalize hsr : tyOf ty src = ds at h
  generalize hds : tyOf ty dst = dd at h
  unfold convA at h
  split at h
  · rename_i k n
    refine ⟨_, h, fun ι S u w hu => ?_⟩
    obtain rfl := hu
    refine ⟨_, 0, ?_, rfl⟩
    rw [World.drewN_zero]
    obtain ⟨u, hu⟩ := Option.isSome_iff_exists.1 (hsc _ _ hsr)
    have e1 := run_underlying hu w
    have e2 := run_underlying (hi _ _ hds) w
    simp [convert, e1, e2, Conv.intToInt]
  · rename_i kk k kq n
    refine ⟨_, h, fun ι S u w hu => ?_⟩
    obtain rfl := hu
    refine ⟨.float k (floatOfInt k n), 0, ?_, floatOfInt k n, rfl, ?_⟩
    · rw [World.drewN_zero]
      exact run_convert_int_float w _ _ _ _ _ (hsc _ _ hsr) (hf _ _ hds)
    · unfold floatOfInt FloatKind.nearest FloatKind.encode
      rw [cf_of_num (write_notNaN k _ rfl)]; rfl
  · rename_i k s x
    cases ho : real.toIntOk s k x with
    | false => simp [ho, chk] at h
    | true =>
      simp only [ho, chk] at h
      refine ⟨_, h, fun ι S u w hu => ?_⟩
      obtain ⟨b, rfl, rfl⟩ := hu
      simp only [real, rToIntOk, Int.toNat_natCast, floatToIntVal_cf] at ho
      obtain ⟨n, hn⟩ := Option.isSome_iff_exists.1 ho
      refine ⟨.int k n, 0, ?_, ?_⟩
      · rw [World.drewN_zero]
        exact run_convert_float_int w _ _ s k b n (hsc _ _ hsr) (hi _ _ hds) hn
      · simp [AR, real, rToInt, floatToIntVal_cf, hn]
  · rename_i k s x
    cases ho : real.convOk s k x with
    | false => simp [ho, chk] at h
    | true =>
      simp only [ho, chk] at h
      refine ⟨_, h, fun ι S u w hu => ?_⟩
      obtain ⟨b, rfl, rfl⟩ := hu
      obtain ⟨q, n, hr, hc⟩ := run_float_float (P := P) src dst s k b w (hsc _ _ hsr) (hf _ _ hds) ho
      exact ⟨_, n, hr, q, rfl, hc.symm⟩
  · rename_i k s x
    cases ho : num real s x with
    | false => simp [ho, chk] at h
    | true =>
      simp only [ho, chk] at h
      refine ⟨_, h, fun ι S u w hu => ?_⟩
      obtain ⟨b, rfl, rfl⟩ := hu
      have ho := num_real ho
      refine ⟨.int k (k.wrap b), 0, ?_, ?_⟩
      · rw [World.drewN_zero]
        obtain ⟨u, hu⟩ := Option.isSome_iff_exists.1 (hsc _ _ hsr)
        have e1 := run_underlying hu w
        have e2 := run_underlying (hi _ _ hds) w
        simp [convert, e1, e2, Conv.intToInt]
      · rw [cf_of_num ho]; rfl
  · cases h

theorem unA_sound {α : Type} {op : UnOp} {x : A} {c : A → Option α} {r : α} (h : unA real op x c = some r) :
    ∃ z, c z = some r ∧ ∀ (ι : Nat → Pl) (S : Nat → Shp) (u : Value) (w : World), AR ι S x u → ∃ q, (Op.unary op u).run P w = .ok q w ∧ AR ι S z q := by
  unfold unA at h
  split at h
  · refine ⟨_, h, fun ι S u w hu => ?_⟩
    obtain rfl := hu
    exact ⟨_, rfl, rfl⟩
  · refine ⟨_, h, fun ι S u w hu => ?_⟩
    obtain ⟨b, rfl, rfl⟩ := hu
    obtain ⟨q, hr, hc⟩ := run_neg (P := P) _ b w
    exact ⟨_, hr, q, rfl, hc.symm⟩
  · refine ⟨_, h, fun ι S u w hu => ?_⟩
    obtain rfl := hu
    exact ⟨_, by simp [Op.unary, Op.intArith], rfl⟩
  · cases h

/-! ### memory -/
theorem Addr.add_at (b o n : Nat) : Addr.add ⟨b, o, none⟩ n = ⟨b, o + n, none⟩ := by
  unfold Addr.add; split <;> simp_all

theorem cell_at {w : World} {b o : Nat} {blk : Array Value} {t : TypeId} {fz : Nat × Nat} (h : w.heap[b]? = some (.cells blk t fz)) : w.cell? ⟨b, o, none⟩ = blk[o]? := cell_of_row w b o blk t fz h

theorem run_loadVar {P : Program} {t : TypeId} {inf : TypeInfo} {d : D} (hi : P.info? t = some inf) (hd : DR P t d) (w : World) (b o : Nat) (cs : List Value)
    (hl : cs.length = inf.size) (hc : ∀ j v, cs[j]? = some v → w.cell? ⟨b, o + j, none⟩ = some v) (h1 : aggD d = false → ∃ v, cs[0]? = some v) :
    (loadVar t ⟨b, o, none⟩).run P w = .ok (match aggD d with | true => .agg cs.toArray | false => cs.getD 0 undef) w := by
  have ha := run_isAgg hd w
  have hs := run_sizeOf hi w
  cases hag : aggD d with
  | true =>
    have hr := run_loadCells_list (P := P) (w := w) ⟨b, o, none⟩ cs (fun j v hj => by rw [Addr.add_at]; exact hc j v hj)
    rw [hl] at hr
    simp [loadVar, ha, hag, hs, hr]
  | false =>
    obtain ⟨v, hv⟩ := h1 hag
    have := hc 0 v hv
    simp only [Nat.add_zero] at this
    simp [loadVar, ha, hag, this, List.getD_eq_getElem?_getD, hv]
end Go.Fx
