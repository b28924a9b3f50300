/- The fastest cooling, as the reference finds it. -/
import Derived.Test.YtpbadgghhiommaaGfast2
set_option linter.unusedVariables false
set_option maxHeartbeats 32000000
set_option linter.unusedSimpArgs false
namespace Go.Proofs.Ytpbadgghhiommaa.I
open Go.Ideal

section
variable (b0 : Int) (zs : List Zone) (k f : Int) (st ps : List Int) (left : Int)
/-- A cooling with these paces is Sure. -/
def sureP (o : List Int) : Prop := (judgeV b0 zs k f (legN ps st o st.length) left).1 = 1
noncomputable def fastB : List Int × Int := bestF ps (sureP b0 zs k f st ps left) ps.length st.length (ps.length ^ st.length)
noncomputable def fastR : (List Int × Int) × Int :=
  if checkE b0 zs ≠ 0 then (([], 0), checkE b0 zs) else if (k < 1 ∨ 1000 < k) ∨ Outs f 2000 then (([], 0), 2) else if listE st 4 0 2000 ≠ 0 then (([], 0), listE st 4 0 2000) else
  if listE ps 4 1 200 ≠ 0 then (([], 0), listE ps 4 1 200) else if Outs left 1099511627776 then (([], 0), 2) else if (fastB b0 zs k f st ps left).1 = [] then (([], 0), 7) else (fastB b0 zs k f st ps left, 0)
end
def fastI (r : (List Int × Int) × Int) : IV := .tuple [sl r.1.1, .int .i64 r.1.2, .int .i64 r.2]
theorem fastI_no (r : (List Int × Int) × Int) : Noname (fastI r) := nn_tuple (nn_cons (sl_no _) (nn_cons (nn_int _ _) (nn_cons (nn_int _ _) nn_none)))
theorem legsO_ok {f : Int} {ps st o : List Int} (hf : ¬ Outs f 2000) (hst : listE st 4 0 2000 = 0) (hps : listE ps 4 1 200 = 0) (ho : o.length = st.length) (hin : ∀ x ∈ o, 0 ≤ x ∧ x < ps.length) : OOk f (legN ps st o st.length) := by
  obtain ⟨s1, s2, s3⟩ := listE_zero hst
  obtain ⟨p1, p2, p3⟩ := listE_zero hps
  unfold Outs at hf
  refine ⟨by omega, by rw [legN_len]; omega, fun i hi => ?_⟩
  rw [legN_len] at hi
  have e := legN_at ps st o st.length i hi
  have : ln (legN ps st o st.length) i = at' (legN ps st o st.length) (i : Int) := rfl
  rw [this, e]
  have a := hin o[i] (List.getElem_mem (by omega))
  have b := at'_get (l := o) (j := i) (by omega)
  rw [← b] at a
  obtain ⟨d, hd⟩ := Int.eq_ofNat_of_zero_le a.1
  have c := p3 d (by omega)
  have g := s3 i hi
  dsimp only
  rw [hd]
  omega
theorem pace_in {ps o : List Int} (hps : InL ps 1 200) {m : Nat} (ho : o.length = m) (hin : ∀ x ∈ o, 0 ≤ x ∧ x < ps.length) : ∀ i : Nat, i < m → (0 ≤ at' o (i : Int) ∧ at' o (i : Int) < ps.length) ∧ 1 ≤ at' ps (at' o (i : Int)) ∧ at' ps (at' o (i : Int)) ≤ 200 := fun i hi => by
  have a := hin o[i] (List.getElem_mem (by omega))
  have b := at'_get (l := o) (j := i) (by omega)
  rw [← b] at a
  obtain ⟨d, hd⟩ := Int.eq_ofNat_of_zero_le a.1
  have c := hps d (by omega)
  rw [hd] at a ⊢
  exact ⟨a, c⟩

end Go.Proofs.Ytpbadgghhiommaa.I
