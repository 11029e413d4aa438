import Derived.Test.YtpgpjkkncghbhaaXr2b
import Derived.Test.YtpgpjkkncghbhaaXr2l
import Derived.Test.YtpgpjkkncghbhaaXQuo
namespace Go.Fx

/-! ### the energy -/
theorem ene_loops (xs : List (List Int)) (k : Int) (hl : xs.length < 4611686018427387904) : ∃ s, Pure.impl_Row_summed_ene_L0 real (Int.ofNat xs.length) k xs (xs.length + 1) 0 0 = (true, s) ∧ Pure.spec_EnergyOfRow_L0 real xs k (xs.length + 1) 0 0 = (true, s) := by
  obtain ⟨h1, _⟩ := iter_up xs.length (fun i (a : Int) => real.bin .add .f32 a (real.bin .mul .f32 (real.bin .mul .f32 ((xs.getD i []).getD 2 0) ((xs.getD i []).getD 1 0)) ((xs.getD i []).getD 1 0)))
    (fun n i a => (Pure.impl_Row_summed_ene_L0 real (Int.ofNat xs.length) k xs n a i, Pure.spec_EnergyOfRow_L0 real xs k n a i)) (fun a => ((true, a), (true, a))) (fun _ _ => True)
    (fun n i a h _ => by
      refine ⟨?_, trivial⟩
      conv => lhs; unfold Pure.impl_Row_summed_ene_L0 Pure.spec_EnergyOfRow_L0
      rw [dec_lt h, dec_nn, Int.toNat_natCast, wrap_succ (by omega)]; rfl) (fun n a _ => by
      conv => lhs; unfold Pure.impl_Row_summed_ene_L0 Pure.spec_EnergyOfRow_L0
      rw [dec_ge (Nat.le_refl _)]; rfl) (xs.length + 1) 0 (0 : Int) (by omega) (by omega) trivial
  simp only [Prod.mk.injEq] at h1
  exact ⟨_, h1.1, h1.2⟩

theorem law_FnExactEnergyOfRow (x0 : List (List Int)) (x1 : Int) (h0 : RowsOK B3 x0) (_ : OkF .f32 x1) : Pure.laws_FnExactEnergyOfRow_ok real x0 x1 = true ∧ Pure.laws_FnExactEnergyOfRow real x0 x1 = true := by
  unfold Pure.laws_FnExactEnergyOfRow_ok Pure.laws_FnExactEnergyOfRow
  cases hs : decide (Pure.laws_szRow real x0 x1 1048576 < 0) with
  | true => exact ⟨rfl, rfl⟩
  | false =>
    have hl := sz_small h0.len hs
    obtain ⟨t1, t2⟩ := toBalls_eq h0 hl
    obtain ⟨v1, v2, v3, _⟩ := valid_is x0 x1 (by omega)
    obtain ⟨e1, e2⟩ := eqRow_refl x0 x1 (by omega)
    obtain ⟨s, m1, m2⟩ := ene_loops x0 x1 (by omega)
    have hi : Pure.impl_EnergyOfRow real x0 x1 = Pure.spec_EnergyOfRow real x0 x1 ∧ Pure.impl_EnergyOfRow_1 real x0 x1 = Pure.spec_EnergyOfRow_1 real x0 x1 ∧ Pure.impl_EnergyOfRow_ok real x0 x1 = true ∧ Pure.spec_EnergyOfRow_ok real x0 x1 = true := by
      unfold Pure.impl_EnergyOfRow Pure.spec_EnergyOfRow Pure.impl_EnergyOfRow_1 Pure.spec_EnergyOfRow_1 Pure.impl_EnergyOfRow_ok Pure.spec_EnergyOfRow_ok Pure.impl_Row_summed_ene Pure.impl_Row_summed_ene_ok
      have e0 : Nat.succ (x0.length + 0) = x0.length + 1 := rfl
      rw [e0, v1, v2, v3, m1, m2, half_quo]
      cases Pure.impl_ValidRow real x0 x1 <;> exact ⟨rfl, rfl, rfl, rfl⟩
    unfold Pure.laws_toRow_ok
    rw [t1, t2, hi.1, hi.2.1, hi.2.2.1, hi.2.2.2, convOk_up, sameFloat_refl, e1, e2]
    simp
end Go.Fx
