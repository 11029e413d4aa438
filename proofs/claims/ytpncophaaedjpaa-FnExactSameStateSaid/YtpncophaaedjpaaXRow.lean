/- From a contract to the row. -/
import Derived.Test.YtpncophaaedjpaaXTab
import Derived.ProofKit
import Derived.Laws.Cover2
namespace Go.Fx
open Go.ChangeShapes Go.WideShapes Go.ChangeAt Go.RowKit
variable {P : Program}

/-- The cell of an argument. -/
def KO : K → Value → Prop
  | .f k, c => ∃ b, c = .float k b ∧ k.has b
  | .i k, c => ∃ n, c = .int k n ∧ k.has n
  | .b, c => ∃ b, c = .bool b

theorem cell_KO {w : World} {r : Reach} {b0 : Nat} {t : TypeId} {v : Value} {k : K} (hk : kindOf P t = some k) (h : Cell.okWide P w r b0 t v) : KO k v := by
  unfold kindOf at hk
  split at hk
  · rename_i kf hu
    simp only [Option.some.injEq] at hk; subst hk
    simp only [Cell.okWide, hu, Cell.ok] at h
    cases v <;> simp at h
    obtain ⟨rfl, h2⟩ := h
    exact ⟨_, rfl, h2⟩
  · rename_i kf hu
    simp only [Option.some.injEq] at hk; subst hk
    simp only [Cell.okWide, hu, Cell.ok] at h
    cases v <;> simp at h
    obtain ⟨rfl, h2⟩ := h
    exact ⟨_, rfl, h2⟩
  · rename_i hu
    simp only [Option.some.injEq] at hk; subst hk
    simp only [Cell.okWide, hu, Cell.ok] at h
    cases v <;> simp at h
    exact ⟨_, rfl⟩
  · cases hk

theorem open_scalar {w : World} {r : Reach} {b0 : Nat} {t : TypeId} {v : Value} {k : K} (hk : kindOf P t = some k) (h : Value.okWide P w r b0 t v) : KO k v := by
  have hk' := hk
  unfold kindOf at hk'
  unfold Value.okWide at h
  split at h
  · rename_i hu; rw [hu] at hk'; cases hk'
  · rename_i hu; rw [hu] at hk'; cases hk'
  · exact cell_KO hk h

def kindsB (P : Program) : List TypeId → List K → Bool
  | [], [] => true
  | t :: ts, k :: ks => (match kindOf P t with | some k' => decide (k' = k) | none => false) && kindsB P ts ks
  | _, _ => false

theorem kindsB_get : ∀ {ts : List TypeId} {ks : List K}, kindsB P ts ks = true → ts.length = ks.length ∧ ∀ (i : Nat) (t : TypeId) (k : K), ts[i]? = some t → ks[i]? = some k → kindOf P t = some k
  | [], [], _ => ⟨rfl, fun i t k h => by simp at h⟩
  | t :: ts, k :: ks, h => by
    simp only [kindsB, Bool.and_eq_true] at h
    obtain ⟨h1, h2⟩ := h
    obtain ⟨g1, g2⟩ := kindsB_get h2
    refine ⟨by simp [g1], fun i t' k' ht hk => ?_⟩
    cases i with
    | zero =>
      simp at ht hk
      subst ht; subst hk
      split at h1
      · rename_i k' hk'; simp at h1; rw [hk', h1]
      · cases h1
    | succ i => exact g2 i t' k' (by simpa using ht) (by simpa using hk)
  | [], _ :: _, h => by simp [kindsB] at h
  | _ :: _, [], h => by simp [kindsB] at h

/-- Is it a type of plain cells, of these kinds? -/
def flatB (P : Program) (t : TypeId) (ks : List K) : Bool :=
  (match P.underlying t with | some (.struct _) => true | some (.array _ _) => true | _ => false) &&
  (match P.cellTypes P.depth t with | some ts => kindsB P ts ks | none => false) && Nat.beq (P.cellsOf t) ks.length && Nat.blt 0 ks.length

theorem open_flat {w : World} {r : Reach} {b0 : Nat} {t : TypeId} {v : Value} {ks : List K} (hk : flatB P t ks = true) (h : Value.okWide P w r b0 t v) : ∃ cs, v = .agg cs ∧ F2 KO ks cs.toList := by
  unfold flatB at hk
  simp only [Bool.and_eq_true] at hk
  obtain ⟨⟨⟨h1, h2⟩, h3⟩, h4⟩ := hk
  have hagg : ∃ cs, v = .agg cs ∧ cs.size = P.cellsOf t ∧ Row.okWide P w r b0 t cs := by
    unfold Value.okWide at h
    split at h
    · exact h
    · exact h
    · rename_i hn1 hn2
      split at h1
      · rename_i hu; exact absurd hu (hn1 _)
      · rename_i hu; exact absurd hu (hn2 _ _)
      · cases h1
  obtain ⟨cs, rfl, hsz, ts, hts, ⟨n, hn⟩, hcell⟩ := hagg
  rw [hts] at h2
  simp only at h2
  obtain ⟨g1, g2⟩ := kindsB_get h2
  have h3 := Nat.eq_of_beq_eq_true h3
  refine ⟨cs, rfl, F2.of_get (by simp; omega) fun i k c hk hc => ?_⟩
  have hi : i < ks.length := (List.getElem?_eq_some_iff.1 hk).1
  obtain ⟨u, hu1, hu2⟩ := hcell i c (by simpa using hc)
  rw [Nat.mod_eq_of_lt (by omega)] at hu1
  exact cell_KO (g2 i u k hu1 hk) hu2

theorem F2_list1 {α β : Type} {R : α → β → Prop} {k0 : α} : ∀ {l : List β}, F2 R [k0] l → ∃ m0, R k0 m0 ∧ l = [m0]
  | [m0], ⟨h0, _⟩ => ⟨_, h0, rfl⟩
  | [], h => by simp [F2] at h
  | _ :: _ :: _, h => by simp [F2] at h
theorem F2_list2 {α β : Type} {R : α → β → Prop} {k0 k1 : α} : ∀ {l : List β}, F2 R [k0, k1] l → ∃ m0 m1, R k0 m0 ∧ R k1 m1 ∧ l = [m0, m1]
  | [m0, m1], ⟨h0, h1, _⟩ => ⟨_, _, h0, h1, rfl⟩
  | [], h => by simp [F2] at h
  | [_], h => by simp [F2] at h
  | _ :: _ :: _ :: _, h => by simp [F2] at h
theorem F2_list3 {α β : Type} {R : α → β → Prop} {k0 k1 k2 : α} : ∀ {l : List β}, F2 R [k0, k1, k2] l → ∃ m0 m1 m2, R k0 m0 ∧ R k1 m1 ∧ R k2 m2 ∧ l = [m0, m1, m2]
  | [m0, m1, m2], ⟨h0, h1, h2, _⟩ => ⟨_, _, _, h0, h1, h2, rfl⟩
  | [], h => by simp [F2] at h
  | [_], h => by simp [F2] at h
  | [_, _], h => by simp [F2] at h
  | _ :: _ :: _ :: _ :: _, h => by simp [F2] at h
theorem F2_list4 {α β : Type} {R : α → β → Prop} {k0 k1 k2 k3 : α} : ∀ {l : List β}, F2 R [k0, k1, k2, k3] l → ∃ m0 m1 m2 m3, R k0 m0 ∧ R k1 m1 ∧ R k2 m2 ∧ R k3 m3 ∧ l = [m0, m1, m2, m3]
  | [m0, m1, m2, m3], ⟨h0, h1, h2, h3, _⟩ => ⟨_, _, _, _, h0, h1, h2, h3, rfl⟩
  | [], h => by simp [F2] at h
  | [_], h => by simp [F2] at h
  | [_, _], h => by simp [F2] at h
  | [_, _, _], h => by simp [F2] at h
  | _ :: _ :: _ :: _ :: _ :: _, h => by simp [F2] at h
theorem F2_list5 {α β : Type} {R : α → β → Prop} {k0 k1 k2 k3 k4 : α} : ∀ {l : List β}, F2 R [k0, k1, k2, k3, k4] l → ∃ m0 m1 m2 m3 m4, R k0 m0 ∧ R k1 m1 ∧ R k2 m2 ∧ R k3 m3 ∧ R k4 m4 ∧ l = [m0, m1, m2, m3, m4]
  | [m0, m1, m2, m3, m4], ⟨h0, h1, h2, h3, h4, _⟩ => ⟨_, _, _, _, _, h0, h1, h2, h3, h4, rfl⟩
  | [], h => by simp [F2] at h
  | [_], h => by simp [F2] at h
  | [_, _], h => by simp [F2] at h
  | [_, _, _], h => by simp [F2] at h
  | [_, _, _, _], h => by simp [F2] at h
  | _ :: _ :: _ :: _ :: _ :: _ :: _, h => by simp [F2] at h
theorem F2_list6 {α β : Type} {R : α → β → Prop} {k0 k1 k2 k3 k4 k5 : α} : ∀ {l : List β}, F2 R [k0, k1, k2, k3, k4, k5] l → ∃ m0 m1 m2 m3 m4 m5, R k0 m0 ∧ R k1 m1 ∧ R k2 m2 ∧ R k3 m3 ∧ R k4 m4 ∧ R k5 m5 ∧ l = [m0, m1, m2, m3, m4, m5]
  | [m0, m1, m2, m3, m4, m5], ⟨h0, h1, h2, h3, h4, h5, _⟩ => ⟨_, _, _, _, _, _, h0, h1, h2, h3, h4, h5, rfl⟩
  | [], h => by simp [F2] at h
  | [_], h => by simp [F2] at h
  | [_, _], h => by simp [F2] at h
  | [_, _, _], h => by simp [F2] at h
  | [_, _, _, _], h => by simp [F2] at h
  | [_, _, _, _, _], h => by simp [F2] at h
  | _ :: _ :: _ :: _ :: _ :: _ :: _ :: _, h => by simp [F2] at h
theorem F2_list7 {α β : Type} {R : α → β → Prop} {k0 k1 k2 k3 k4 k5 k6 : α} : ∀ {l : List β}, F2 R [k0, k1, k2, k3, k4, k5, k6] l → ∃ m0 m1 m2 m3 m4 m5 m6, R k0 m0 ∧ R k1 m1 ∧ R k2 m2 ∧ R k3 m3 ∧ R k4 m4 ∧ R k5 m5 ∧ R k6 m6 ∧ l = [m0, m1, m2, m3, m4, m5, m6]
  | [m0, m1, m2, m3, m4, m5, m6], ⟨h0, h1, h2, h3, h4, h5, h6, _⟩ => ⟨_, _, _, _, _, _, _, h0, h1, h2, h3, h4, h5, h6, rfl⟩
  | [], h => by simp [F2] at h
  | [_], h => by simp [F2] at h
  | [_, _], h => by simp [F2] at h
  | [_, _, _], h => by simp [F2] at h
  | [_, _, _, _], h => by simp [F2] at h
  | [_, _, _, _, _], h => by simp [F2] at h
  | [_, _, _, _, _, _], h => by simp [F2] at h
  | _ :: _ :: _ :: _ :: _ :: _ :: _ :: _ :: _, h => by simp [F2] at h
theorem F2_list8 {α β : Type} {R : α → β → Prop} {k0 k1 k2 k3 k4 k5 k6 k7 : α} : ∀ {l : List β}, F2 R [k0, k1, k2, k3, k4, k5, k6, k7] l → ∃ m0 m1 m2 m3 m4 m5 m6 m7, R k0 m0 ∧ R k1 m1 ∧ R k2 m2 ∧ R k3 m3 ∧ R k4 m4 ∧ R k5 m5 ∧ R k6 m6 ∧ R k7 m7 ∧ l = [m0, m1, m2, m3, m4, m5, m6, m7]
  | [m0, m1, m2, m3, m4, m5, m6, m7], ⟨h0, h1, h2, h3, h4, h5, h6, h7, _⟩ => ⟨_, _, _, _, _, _, _, _, h0, h1, h2, h3, h4, h5, h6, h7, rfl⟩
  | [], h => by simp [F2] at h
  | [_], h => by simp [F2] at h
  | [_, _], h => by simp [F2] at h
  | [_, _, _], h => by simp [F2] at h
  | [_, _, _, _], h => by simp [F2] at h
  | [_, _, _, _, _], h => by simp [F2] at h
  | [_, _, _, _, _, _], h => by simp [F2] at h
  | [_, _, _, _, _, _, _], h => by simp [F2] at h
  | _ :: _ :: _ :: _ :: _ :: _ :: _ :: _ :: _ :: _, h => by simp [F2] at h

/-- Bits of a float argument, canonical. -/
def OkF (k : FloatKind) (x : Int) : Prop := ∃ b : Nat, x = (cf k b : Nat) ∧ k.has b

theorem calls_of_holds {f : FuncId} {fn : Func} {c : Code} {args : List V} {h news : List Ob} {ι : Nat → Pl} {w : World} {cs : Array Value} (hf : P.funcs[f]? = some fn) (hb : fn.body = some c) (hname : (fn.name == "runtime.NumGoroutine") = false)
    (hh : Holds P f args h (.at (.bool true)) news) (ha : F2 (VR ι (shp h)) args cs.toList) (hr : HR ι h w) : Calls P f cs w fun e w' => e = .returned (.bool true) ∧ Below w.heap.size w w' := by
  have := hh ι w cs ha hr
  unfold CallsV at this
  have hrun : (callFunc f cs).run P w = .ok (.enter f cs) w := by
    have hn : fn.name ≠ "runtime.NumGoroutine" := by simpa using hname
    simp [callFunc, hf, hn, hb]
  rw [hrun] at this
  simp only at this
  refine this.mono fun e w' ⟨c, h1, ι', hg, hv, _⟩ => ?_
  have hc : c = .bool true := hv
  subst h1; subst hc
  exact ⟨rfl, hg.wx.os, hg.wx.tape, hg.wx.output, hg.wx.size, hg.wx.block⟩

def readB (P : Program) : List TypeId → Bool
  | [] => true
  | t :: ts => P.readableRec t && Nat.blt t P.types.size && readB P ts

theorem trodAll_stays {H : Type} {enc : TypeId × Value → H} (hl : laidOutB P = true) {W W' : World} (hb : Below W.heap.size W W') : ∀ {ts : List TypeId} {vs : List Value} {ds : List (DataW H)} {ps : List MemPlace}, readB P ts = true →
    DataW.TrodAll enc P W 0 (fun _ => true) true ts vs ds ps → (∀ x ∈ ps, x.block < W.heap.size) → DataW.TrodAll enc P W' 0 (fun b => decide (b < W.heap.size)) true ts vs ds ps
  | [], vs, ds, ps, _, h, _ => by
    obtain ⟨rfl, rfl, rfl⟩ := trodAll_nil h
    exact trodAll_mk0
  | t :: ts, vs, ds, ps, hr, h, hlt => by
    simp only [readB, Bool.and_eq_true, Nat.blt_eq] at hr
    obtain ⟨v, vs', d, ds', p, q, rfl, rfl, rfl, hd, hrest⟩ := trodAll_cons h
    exact ⟨p, q, Below.trod hl hr.1.1 hr.1.2 hd hb (fun x hx => hlt x (by simp [hx])), trodAll_stays hl hb hr.2 hrest (fun x hx => hlt x (by simp [hx])), rfl⟩

/-- The row's end: true, and the arguments as they were. -/
theorem law_post {H : Type} {enc : TypeId × Value → H} {f : Func} {s : ChangeSpec} {W W' : World} {args : Array Value} {ds gs : List (DataW H)} {before : List MemPlace} {tb : TypeId} (hl : laidOutB P = true) (hr : readB P f.params.toList = true) (hrt : f.resultTypes = #[tb])
    (htb : P.underlying tb = some .bool) (hvars : s.vars = []) (hfn : (s.fn H ds).results = [.lit (.bool true)] ∧ (s.fn H ds).args = ds ∧ (s.fn H ds).vars = []) (hW : DataW.Whole enc P f.params.toList s.vars false W args.toList ds gs before) (hb : Below W.heap.size W W') :
    s.post enc P f false true false false W args (.bool true) W' := by
  have hlt := hW.lt
  have hW' := hW
  obtain ⟨p, q, hA, hV, rfl, hz, hn⟩ := hW
  rw [hvars] at hV
  obtain ⟨rfl, rfl⟩ := trodVars_none hV
  have hds : s.fn H (ds ++ []) = s.fn H ds := by rw [List.append_nil]
  refine ⟨ds, [], _, [], p, [], hW', ?_, ?_, ?_, hb.frame _, fun h => by cases h⟩
  · rw [hds, hfn.1, hrt]
    exact trodAll_mk1 (shut_bool htb true)
  · rw [hds, hfn.2.1]
    exact trodAll_stays hl hb hr hA (fun x hx => hlt x (by simp [hx]))
  · rw [hds, hfn.2.2, hvars]
    simp [DataW.TrodVars]
end Go.Fx
