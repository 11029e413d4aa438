/- Functions of the library that have no body. -/
import Derived.Test.YtpncophaaedjpaaXTab
namespace Go.Fx
variable {P : Program}

theorem holds_ext {f : FuncId} {fn : Func} {e : Array Value → Sem Value} {args : List V} {r : V} (hf : P.funcs[f]? = some fn) (hb : fn.body = none) (hname : (fn.name == "runtime.NumGoroutine") = false) (h1 : Extern.findNext fn = none) (h2 : Extern.find fn = some e)
    (he : ∀ (w : World) (cs : Array Value), (∀ ι S, F2 (VR ι S) args cs.toList → ∃ c n, (e cs).run P w = .ok c (w.drewN n) ∧ VR ι S r c)) : Holds P f args [] r [] := by
  intro ι w cs hargs hh
  obtain ⟨c, n, hr, hv⟩ := he w cs ι _ hargs
  have hn : fn.name ≠ "runtime.NumGoroutine" := by simpa using hname
  have hrun : (callFunc f cs).run P w = .ok (.value c) (w.drewN n) := by
    simp [callFunc, hf, hn, hb, h1, h2, run_mark, hr]
  unfold CallsV
  rw [hrun]
  exact ⟨ι, Grow.none (WX.drewN w n), hv, hh.wx (WX.drewN w n)⟩

theorem ext_bits32 {f : FuncId} {fn : Func} (hf : P.funcs[f]? = some fn) (hb : fn.body = none) (hname : (fn.name == "runtime.NumGoroutine") = false) (h1 : Extern.findNext fn = none) (h2 : Extern.find fn = some Extern.MathFloatBits.float32bits) (x : Int) :
    Holds P f [.at (.fl .f32 x)] [] (.at (.raw .f32 x)) [] := by
  refine holds_ext hf hb hname h1 h2 fun w cs ι S h => ?_
  obtain ⟨l⟩ := cs
  match l, h with
  | [c], ⟨⟨b, hc, hx⟩, _⟩ => subst hc; exact ⟨.int .u32 b, 0, rfl, b, rfl, hx⟩
  | [], h => exact h.elim
  | _ :: _ :: _, ⟨_, h⟩ => exact h.elim

theorem ext_bits64 {f : FuncId} {fn : Func} (hf : P.funcs[f]? = some fn) (hb : fn.body = none) (hname : (fn.name == "runtime.NumGoroutine") = false) (h1 : Extern.findNext fn = none) (h2 : Extern.find fn = some Extern.MathFloatBits.float64bits) (x : Int) :
    Holds P f [.at (.fl .f64 x)] [] (.at (.raw .f64 x)) [] := by
  refine holds_ext hf hb hname h1 h2 fun w cs ι S h => ?_
  obtain ⟨l⟩ := cs
  match l, h with
  | [c], ⟨⟨b, hc, hx⟩, _⟩ => subst hc; exact ⟨.int .u64 b, 0, rfl, b, rfl, hx⟩
  | [], h => exact h.elim
  | _ :: _ :: _, ⟨_, h⟩ => exact h.elim

theorem ext_from32 {f : FuncId} {fn : Func} (hf : P.funcs[f]? = some fn) (hb : fn.body = none) (hname : (fn.name == "runtime.NumGoroutine") = false) (h1 : Extern.findNext fn = none) (h2 : Extern.find fn = some Extern.MathFloatBits.float32frombits) (x : Int) :
    Holds P f [.at (.raw .f32 x)] [] (.at (.fl .f32 x)) [] := by
  refine holds_ext hf hb hname h1 h2 fun w cs ι S h => ?_
  obtain ⟨l⟩ := cs
  match l, h with
  | [c], ⟨⟨b, hc, hx⟩, _⟩ => subst hc; exact ⟨.float .f32 b, 0, rfl, b, rfl, hx⟩
  | [], h => exact h.elim
  | _ :: _ :: _, ⟨_, h⟩ => exact h.elim

theorem ext_from64 {f : FuncId} {fn : Func} (hf : P.funcs[f]? = some fn) (hb : fn.body = none) (hname : (fn.name == "runtime.NumGoroutine") = false) (h1 : Extern.findNext fn = none) (h2 : Extern.find fn = some Extern.MathFloatBits.float64frombits) (x : Int) :
    Holds P f [.at (.raw .f64 x)] [] (.at (.fl .f64 x)) [] := by
  refine holds_ext hf hb hname h1 h2 fun w cs ι S h => ?_
  obtain ⟨l⟩ := cs
  match l, h with
  | [c], ⟨⟨b, hc, hx⟩, _⟩ => subst hc; exact ⟨.float .f64 b, 0, rfl, b, rfl, hx⟩
  | [], h => exact h.elim
  | _ :: _ :: _, ⟨_, h⟩ => exact h.elim

theorem ext_from64i {f : FuncId} {fn : Func} (hf : P.funcs[f]? = some fn) (hb : fn.body = none) (hname : (fn.name == "runtime.NumGoroutine") = false) (h1 : Extern.findNext fn = none) (h2 : Extern.find fn = some Extern.MathFloatBits.float64frombits) (n : Int) :
    Holds P f [.at (.int .u64 n)] [] (.at (.fl .f64 (real.ofBits .f64 n))) [] := by
  refine holds_ext hf hb hname h1 h2 fun w cs ι S h => ?_
  obtain ⟨l⟩ := cs
  match l, h with
  | [c], ⟨hc, _⟩ => obtain rfl : c = .int .u64 n := hc; exact ⟨.float .f64 n.toNat, 0, rfl, n.toNat, rfl, rfl⟩
  | [], h => exact h.elim
  | _ :: _ :: _, ⟨_, h⟩ => exact h.elim

theorem quiet_pos (t : Nat) : 2 ^ 51 ≤ FloatKind.f64.format.quiet t % 2 ^ 52 := by
  have : (FloatKind.f64.format.quiet t % 2 ^ 52).testBit 51 = true := by
    rw [Nat.testBit_mod_two_pow]
    show (decide (51 < 52) && (t ||| 2 ^ 51).testBit 51) = true
    rw [Nat.testBit_or, Nat.testBit_two_pow_self]
    simp
  exact Nat.ge_two_pow_of_testBit this

theorem isNaNb_quiet (s : Bool) (t : Nat) : isNaNb .f64 (FloatKind.f64.encode (.nan s (FloatKind.f64.format.quiet t))) = true := by
  have h1 := quiet_pos t
  have h2 : FloatKind.f64.format.quiet t % 2 ^ 52 < 2 ^ 52 := Nat.mod_lt _ (by decide)
  have e2 : FloatKind.f64.format.infRung = 9218868437227405312 := by decide
  have e3 : FloatKind.f64.format.binade = 2 ^ 52 := by decide
  have e1 : FloatKind.f64.format.signWeight = 9223372036854775808 := by decide
  unfold FloatKind.encode Ieee.Format.write Ieee.Format.word
  simp only [e2, e3, e1]
  generalize FloatKind.f64.format.quiet t % 2 ^ 52 = q at h1 h2
  cases s with
  | true =>
    have := isNaNb_at64 1 (q - 1) (by omega) (by omega)
    rw [show 1 * 9223372036854775808 + 9218868437227405313 + (q - 1) = 9223372036854775808 + (9218868437227405312 + q) by omega] at this
    exact this
  | false =>
    have := isNaNb_at64 0 (q - 1) (by omega) (by omega)
    rw [show 0 * 9223372036854775808 + 9218868437227405313 + (q - 1) = 9218868437227405312 + q by omega] at this
    exact this

theorem integral_notNaN {way : Ieee.Toward} {d : Ieee.Datum} (h : d.isNaN = false) : (d.integral way).isNaN = false := by
  cases d <;> first | exact h | rfl

theorem toIntegral_eq (nm : String) (way : Ieee.Toward) (b : Nat) : Extern.MathFloor.toIntegral nm way #[.float .f64 b] = (match FloatKind.f64.decode b with
    | .nan s t =>
      if FloatKind.f64.format.quiet t = t then pure (.float .f64 b) else do
      let kept ← choose (.extern "math.Floor,Ceil,Trunc,RoundToEven.signallingNaN kept" 2)
      pure (.float .f64 (if kept == 1 then b else FloatKind.f64.encode (.nan s (FloatKind.f64.format.quiet t))))
    | d => pure (.float .f64 (FloatKind.f64.encode (d.integral way)))) := rfl

theorem sqrt_eq (b : Nat) : Extern.MathSqrt.sqrt #[.float .f64 b] = (match FloatKind.f64.format.sqrt b with
    | some r => pure (.float .f64 r)
    | none => do pure (.float .f64 (← choose (.nanBits .f64 b b)))) := rfl

theorem ext_integral {f : FuncId} {fn : Func} {nm : String} {way : Ieee.Toward} (hf : P.funcs[f]? = some fn) (hb : fn.body = none) (hname : (fn.name == "runtime.NumGoroutine") = false) (h1 : Extern.findNext fn = none) (h2 : Extern.find fn = some (Extern.MathFloor.toIntegral nm way)) (x : Int) :
    Holds P f [.at (.fl .f64 x)] [] (.at (.fl .f64 (real.integral way x))) [] := by
  refine holds_ext hf hb hname h1 h2 fun w cs ι S h => ?_
  obtain ⟨l⟩ := cs
  match l, h with
  | [c], ⟨⟨b, hc, hx⟩, _⟩ =>
    subst hc; subst hx
    show ∃ c n, (Extern.MathFloor.toIntegral nm way #[.float .f64 b]).run P w = .ok c (w.drewN n) ∧ VR ι S (.at (.fl .f64 (rIntegral way (cf .f64 b : Nat)))) c
    cases hn : isNaNb .f64 b with
    | true =>
      obtain ⟨s, t, hr⟩ := read_nan hn
      have hd : FloatKind.f64.decode b = .nan s t := hr
      have hri : rIntegral way (cf .f64 b : Nat) = (nanOf .f64 : Nat) := by
        obtain ⟨s', t', hr'⟩ := read_nan (isNaNb_nanOf .f64)
        have hd' : FloatKind.f64.decode (nanOf .f64) = .nan s' t' := hr'
        unfold rIntegral
        rw [cf_of_nan hn, Int.toNat_natCast, hd']
      rw [hri]
      rw [toIntegral_eq, hd]
      simp only
      by_cases hq : FloatKind.f64.format.quiet t = t
      · rw [if_pos hq]
        exact ⟨_, 0, rfl, b, rfl, by rw [cf_of_nan hn]⟩
      · rw [if_neg hq]
        simp only [Sem.run_bind]
        rw [run_choose _ _ rfl]
        simp only [Result.andThen_ok, Sem.run_pure]
        refine ⟨_, 1, rfl, _, rfl, ?_⟩
        split
        · rw [cf_of_nan hn]
        · rw [cf_of_nan (isNaNb_quiet s t)]
    | false =>
      unfold rIntegral
      rw [cf_of_num hn, Int.toNat_natCast]
      rw [toIntegral_eq]
      have hnn : (FloatKind.f64.decode b).isNaN = false := hn
      have hw := write_notNaN .f64 _ (integral_notNaN (way := way) hnn)
      generalize FloatKind.f64.decode b = d at hnn hw ⊢
      cases d with
      | nan s t => cases hnn
      | infinity s => exact ⟨_, 0, rfl, _, rfl, by simp only; rw [cf_of_num]; exact hw⟩
      | number s m i => exact ⟨_, 0, rfl, _, rfl, by simp only; rw [cf_of_num]; exact hw⟩
  | [], h => exact h.elim
  | _ :: _ :: _, ⟨_, h⟩ => exact h.elim

theorem ext_sqrt {f : FuncId} {fn : Func} (hf : P.funcs[f]? = some fn) (hb : fn.body = none) (hname : (fn.name == "runtime.NumGoroutine") = false) (h1 : Extern.findNext fn = none) (h2 : Extern.find fn = some Extern.MathSqrt.sqrt) (x : Int) :
    Holds P f [.at (.fl .f64 x)] [] (.at (.fl .f64 (real.sqrt x))) [] := by
  refine holds_ext hf hb hname h1 h2 fun w cs ι S h => ?_
  obtain ⟨l⟩ := cs
  match l, h with
  | [c], ⟨⟨b, hc, hx⟩, _⟩ =>
    subst hc; subst hx
    show ∃ c n, (Extern.MathSqrt.sqrt #[.float .f64 b]).run P w = .ok c (w.drewN n) ∧ VR ι S (.at (.fl .f64 (rSqrt (cf .f64 b : Nat)))) c
    have hsq : FloatKind.f64.format.sqrt (cf .f64 b) = FloatKind.f64.format.sqrt b := by
      cases hn : isNaNb .f64 b with
      | false => rw [cf_of_num hn]
      | true =>
        obtain ⟨s, t, hr⟩ := read_nan hn
        obtain ⟨s', t', hr'⟩ := read_nan (isNaNb_nanOf .f64)
        rw [cf_of_nan hn]
        unfold Ieee.Format.sqrt
        rw [hr, hr']
        rfl
    rw [sqrt_eq]
    unfold rSqrt
    rw [Int.toNat_natCast, hsq]
    cases hs : FloatKind.f64.format.sqrt b with
    | some r =>
      refine ⟨_, 0, rfl, r, rfl, ?_⟩
      have : isNaNb .f64 r = false := by
        unfold Ieee.Format.sqrt at hs
        cases hrt : (FloatKind.f64.format.read b).root (FloatKind.f64.format.fractionBits + 2) with
        | none => rw [hrt] at hs; cases hs
        | some d =>
          rw [hrt] at hs
          simp only [Option.map_some, Option.some.injEq] at hs
          subst hs
          exact write_notNaN .f64 d (root_notNaN hrt)
      rw [cf_of_num this]; rfl
    | none =>
      simp only [Sem.run_bind]
      rw [run_choose _ _ rfl]
      simp only [Result.andThen_ok, Sem.run_pure]
      refine ⟨_, 1, rfl, _, rfl, ?_⟩
      rw [cf_of_nan (cut_nanBits ..)]
      rfl
  | [], h => exact h.elim
  | _ :: _ :: _, ⟨_, h⟩ => exact h.elim
end Go.Fx
