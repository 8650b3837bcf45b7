/-
  'forecourtlaw11.ShopAge' returns true: the run of the law.
-/
import Derived.Test.YtbhgncfbljkdgaaD4
namespace Go.Proofs.Ytbhgncfbljkdgaa.Fn
open Go Go.Proofs.Ytbhgncfbljkdgaa.AI
set_option linter.unusedVariables false
set_option linter.unusedSimpArgs false

noncomputable def O7 : Ora := O6.add 36 (relOra SpAge)
theorem O7_ok : OraOK Try.prog O7 ∧ Tells O7 36 SpAge := tell O6_ok.1 tab mixed (by rw [goFunc, Try.func36]; kernel_rfl) (run36 (O := O6) rfl (O5_ok.2.add rfl))
noncomputable def O8 : Ora := O7.add 50 (relOra SpDate)
theorem O8_ok : OraOK Try.prog O8 ∧ Tells O8 50 SpDate := tell O7_ok.1 tab mixed (by rw [goFunc, Try.func50]; kernel_rfl) (date_told (O := O7) rfl)
noncomputable def O9 : Ora := O8.add 46 (relOra SpNext)
theorem O9_ok : OraOK Try.prog O9 ∧ Tells O9 46 SpNext := tell O8_ok.1 tab mixed (by rw [goFunc, Try.func46]; kernel_rfl) (run46 (O := O8) rfl (((((((O2_ok.2.add rfl).add rfl).add rfl).add rfl).add rfl).add rfl)) O8_ok.2)

theorem works_told {O : Ora} (h17 : O 17 = some trueOra) (h : Heap) (n : Nat) : (RO AP O).call 17 [] h n = some (.bool true, h, n) := RO_ora h17 rfl

/-- years, by month and day -/
theorem ageR_at {y m d y' m' d' : Int} (hb : isDate y m d = true) (ht : isDate y' m' d' = true) :
    ∃ Y : Int, (100 * m' + d' < 100 * m + d → Y = y' - y - 1) ∧ (¬ 100 * m' + d' < 100 * m + d → Y = y' - y) ∧ ageR y m d y' m' d' = if Y < 0 then (0, 12) else (Y, 0) := by
  by_cases hc : 100 * m' + d' < 100 * m + d
  · exact ⟨y' - y - 1, fun _ => rfl, fun h => absurd hc h, by simp only [ageR, hb, ht, and_self, if_true, hc]⟩
  · exact ⟨y' - y, fun h => absurd h hc, fun _ => rfl, by simp only [ageR, hb, ht, and_self, if_true, hc, if_false]⟩

theorem age_own {y m d : Int} (hb : isDate y m d = true) : ageR y m d y m d = (0, 0) := by
  obtain ⟨Y, _, h2, e⟩ := ageR_at hb hb
  have : Y = 0 := by rw [h2 (by omega)]; omega
  rw [e, this]
  rfl

/-- a birthday, or March 1 in its place -/
def Party (m d ny nm nd : Int) : Prop := (nm = m ∧ nd = d) ∨ (m = 2 ∧ d = 29 ∧ nm = 3 ∧ nd = 1 ∧ days ny 2 = 28)

/-- the plain law: the ages at a date and at the next one -/
theorem age_next {y m d y' m' d' ny nm nd : Int} (hb : isDate y m d = true) (ht : isDate y' m' d' = true) (he : nextD y' m' d' = (ny, nm, nd)) (hn : isDate ny nm nd = true) :
    ∃ Y Z : Int, ageR y m d y' m' d' = (if Y < 0 then (0, 12) else (Y, 0)) ∧ ageR y m d ny nm nd = (if Z < 0 then (0, 12) else (Z, 0)) ∧
      (Party m d ny nm nd → Z = Y + 1) ∧ (¬ Party m d ny nm nd → Z = Y) ∧ (Z = 0 → Y = -1 → ny = y ∧ nm = m ∧ nd = d) ∧ -20000 ≤ Y ∧ Y ≤ 20000 := by
  obtain ⟨Y, y1, y2, e1⟩ := ageR_at hb ht
  obtain ⟨Z, z1, z2, e2⟩ := ageR_at hb hn
  refine ⟨Y, Z, e1, e2, ?_⟩
  have f1 := isDate_iff.1 hb
  have f2 := isDate_iff.1 ht
  have g1 := days_le y m
  have g2 := days_le y' m'
  have g3 := days_le y' 2
  have g4 := days_le ny 2
  have s1 := days_same y y' m
  have e3 : m = m' → days y' m = days y' m' := fun h => by rw [h]
  have e4 : m' = 2 → days y' m' = days y' 2 := fun h => by rw [h]
  have hbd : -20000 ≤ Y ∧ Y ≤ 20000 := by
    by_cases p : 100 * m' + d' < 100 * m + d
    · have := y1 p; omega
    · have := y2 p; omega
  suffices H : (Party m d ny nm nd → Z = Y + 1) ∧ (¬ Party m d ny nm nd → Z = Y) ∧ (Z = 0 → Y = -1 → ny = y ∧ nm = m ∧ nd = d) from ⟨H.1, H.2.1, H.2.2, hbd⟩
  unfold nextD at he
  by_cases c1 : d' < days y' m'
  · rw [if_pos c1] at he
    simp only [Prod.mk.injEq] at he
    obtain ⟨rfl, rfl, rfl⟩ := he
    have k1 : d ≤ 31 := by omega
    have k2 : d' + 1 ≤ 31 := by omega
    have k3 : 1 ≤ d' := f2.2.2.1
    have k4 : 1 ≤ d := f1.2.2.1
    clear s1 e3 e4 g1 g2 g3 g4 f1 f2 c1 e1 e2 hb ht hn
    by_cases p : 100 * m' + d' < 100 * m + d
    · have hY := y1 p
      by_cases q : 100 * m' + (d' + 1) < 100 * m + d
      · have hZ := z1 q
        clear y1 y2 z1 z2
        refine ⟨fun h => ?_, fun _ => by omega, fun h1 h2 => by omega⟩
        rcases h with ⟨h1, h2⟩ | ⟨h1, h2, h3, h4, h5⟩ <;> omega
      · have hZ := z2 q
        clear y1 y2 z1 z2
        refine ⟨fun h => by omega, fun h => (h (.inl ⟨by omega, by omega⟩)).elim, fun h1 h2 => ⟨by omega, by omega, by omega⟩⟩
    · have hY := y2 p
      have hZ := z2 (by omega)
      clear y1 y2 z1 z2
      refine ⟨fun h => ?_, fun h => by omega, fun h1 h2 => by omega⟩
      rcases h with ⟨h1, h2⟩ | ⟨h1, h2, h3, h4, h5⟩ <;> omega
  · rw [if_neg c1] at he
    by_cases c2 : m' < 12
    · rw [if_pos c2] at he
      simp only [Prod.mk.injEq] at he
      obtain ⟨rfl, rfl, rfl⟩ := he
      have hD : d' = days y' m' := by omega
      have k1 : d ≤ 31 := by omega
      have k2 : 28 ≤ d' ∧ d' ≤ 31 := by omega
      have k4 : 1 ≤ d := f1.2.2.1
      -- a day behind the month's end is February 29
      have key : m = m' → d' < d → m = 2 ∧ d = 29 ∧ days y' 2 = 28 := by
        intro h1 h2
        by_cases h22 : m = 2
        · have := e4 (by omega)
          refine ⟨h22, ?_, ?_⟩
          · have := g1.2.2.1 h22; omega
          · have := g1.2.2.1 h22; omega
        · have a1 := s1 h22
          have a2 := e3 h1
          omega
      have key3 : y' = y → m = 2 → d = 29 → days y' 2 = 28 → False := by
        intro h1 h2 h3 h4
        have := f1.2.2.2
        rw [h2, ← h1, h4] at this
        omega
      have key2 : m = 2 → m' = 2 → days y' 2 = 28 → d' = 28 := by
        intro _ h2 h3
        rw [hD, e4 h2, h3]
      clear s1 e3 e4 g1 g2 g3 g4 f1 f2 c1 e1 e2 hb ht hn
      by_cases p : 100 * m' + d' < 100 * m + d
      · have hY := y1 p
        by_cases q : 100 * (m' + 1) + 1 < 100 * m + d
        · have hZ := z1 q
          clear y1 y2 z1 z2
          refine ⟨fun h => ?_, fun _ => by omega, fun h1 h2 => by omega⟩
          rcases h with ⟨h1, h2⟩ | ⟨h1, h2, h3, h4, h5⟩ <;> omega
        · have hZ := z2 q
          clear y1 y2 z1 z2
          by_cases hmm : m = m'
          · obtain ⟨a1, a2, a3⟩ := key hmm (by omega)
            refine ⟨fun h => by omega, fun h => (h (.inr ⟨a1, a2, by omega, rfl, a3⟩)).elim, fun h1 h2 => ?_⟩
            exact (key3 (by omega) a1 a2 a3).elim
          · refine ⟨fun h => by omega, fun h => (h (.inl ⟨by omega, by omega⟩)).elim, fun h1 h2 => ⟨by omega, by omega, by omega⟩⟩
      · have hY := y2 p
        have hZ := z2 (by omega)
        clear y1 y2 z1 z2
        refine ⟨fun h => ?_, fun h => by omega, fun h1 h2 => by omega⟩
        rcases h with ⟨h1, h2⟩ | ⟨h1, h2, h3, h4, h5⟩
        · omega
        · have := key2 h1 (by omega) h5
          omega
    · rw [if_neg c2] at he
      simp only [Prod.mk.injEq] at he
      obtain ⟨rfl, rfl, rfl⟩ := he
      have hm12 : m' = 12 := by omega
      have hD : d' = 31 := by have := g2.2.2.2.2.1 hm12; omega
      have k1 : d ≤ 31 := by omega
      have k4 : 1 ≤ d := f1.2.2.1
      have k5 := f1.2.1
      have hY := y2 (by omega)
      clear s1 e3 e4 g1 g2 g3 g4 f2 c1 e1 e2 hb ht hn y1 y2
      by_cases q : 100 * 1 + 1 < 100 * m + d
      · have hZ := z1 q
        clear z1 z2
        refine ⟨fun h => ?_, fun _ => by omega, fun h1 h2 => by omega⟩
        rcases h with ⟨h1, h2⟩ | ⟨h1, h2, h3, h4, h5⟩ <;> omega
      · have hZ := z2 q
        clear z1 z2
        refine ⟨fun h => by omega, fun h => (h (.inl ⟨by omega, by omega⟩)).elim, fun h1 h2 => ⟨by omega, by omega, by omega⟩⟩
end Go.Proofs.Ytbhgncfbljkdgaa.Fn
