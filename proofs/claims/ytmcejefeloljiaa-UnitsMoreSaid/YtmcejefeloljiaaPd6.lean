/-
  What the laws of conversion come to.
-/
import Derived.Test.YtmcejefeloljiaaPd5
namespace Go.Proofs.Ytmcejefeloljiaa
open Go.RowKit Nm Go.SX

set_option maxRecDepth 100000 in
theorem T_uback (l : List unitT.den) (a b c : Int) (r : ratT.den) : sxE Try.prog noL yCon 60 6 [.dsl unitT l, .val (.int .i64 a), .val (.int .i64 b), .val (.int .i64 c), svT ratT r] =
    bif wfT unitT.sl (l) then
      bif !fewU (l) then some (OutE.ret (SV.val (Value.bool true)))
      else
        bif decide ((↑(ByteArray.size r.snd.fst) : Int) > 40) then some (OutE.ret (SV.val (Value.bool true)))
        else
          bif decide ((↑(ByteArray.size r.snd.snd.fst) : Int) > 40) then some (OutE.ret (SV.val (Value.bool true)))
          else
            bif wfT unitT.sl (l) then
              bif !(resolveF (l)).snd == 0 then some (OutE.ret (SV.val (Value.bool true)))
              else
                bif szB r.snd.fst && szB r.snd.snd.fst then
                  bif checkR { neg := r.fst, n := r.snd.fst, d := r.snd.snd.fst } != 0 then
                    some (OutE.ret (SV.val (Value.bool true)))
                  else
                    bif wfT unitT.sl ((resolveF (l)).fst) && (szB r.snd.fst && szB r.snd.snd.fst) then
                      bif
                          (convF ((resolveF (l)).fst) a b
                                { neg := r.fst, n := r.snd.fst, d := r.snd.snd.fst }).snd !=
                            0 then
                        bif
                            (convF ((resolveF (l)).fst) a b
                                  { neg := r.fst, n := r.snd.fst, d := r.snd.snd.fst }).snd ==
                              90 then
                          some
                            (OutE.ret
                              (SV.val
                                (Value.bool
                                  ((convF ((resolveF (l)).fst) a b
                                            { neg := r.fst, n := r.snd.fst, d := r.snd.snd.fst }).fst.neg ==
                                      false &&
                                    ((convF ((resolveF (l)).fst) a b
                                              { neg := r.fst, n := r.snd.fst, d := r.snd.snd.fst }).fst.n ==
                                        (bs []) &&
                                      ((convF ((resolveF (l)).fst) a b
                                                { neg := r.fst, n := r.snd.fst, d := r.snd.snd.fst }).fst.d ==
                                          (bs []) &&
                                        true))))))
                        else some (OutE.ret (SV.val (Value.bool false)))
                      else
                        bif
                            wfT unitT.sl ((resolveF (l)).fst) &&
                              (szB
                                  (convF ((resolveF (l)).fst) a b
                                        { neg := r.fst, n := r.snd.fst, d := r.snd.snd.fst }).fst.n &&
                                szB
                                  (convF ((resolveF (l)).fst) a b
                                        { neg := r.fst, n := r.snd.fst, d := r.snd.snd.fst }).fst.d) then
                          bif wfT unitT.sl ((resolveF (l)).fst) && (szB r.snd.fst && szB r.snd.snd.fst) then
                            bif
                                (convF ((resolveF (l)).fst) b a
                                      (convF ((resolveF (l)).fst) a b
                                          { neg := r.fst, n := r.snd.fst, d := r.snd.snd.fst }).fst).snd !=
                                  0 then
                              some (OutE.ret (SV.val (Value.bool false)))
                            else
                              bif
                                  (convF ((resolveF (l)).fst) a a
                                        { neg := r.fst, n := r.snd.fst, d := r.snd.snd.fst }).snd !=
                                    0 then
                                some (OutE.ret (SV.val (Value.bool false)))
                              else
                                bif
                                    !((convF ((resolveF (l)).fst) b a
                                                (convF ((resolveF (l)).fst) a b
                                                    { neg := r.fst, n := r.snd.fst, d := r.snd.snd.fst }).fst).fst.neg ==
                                          r.fst &&
                                        ((convF ((resolveF (l)).fst) b a
                                                  (convF ((resolveF (l)).fst) a b
                                                      { neg := r.fst, n := r.snd.fst, d := r.snd.snd.fst }).fst).fst.n ==
                                            r.snd.fst &&
                                          ((convF ((resolveF (l)).fst) b a
                                                    (convF ((resolveF (l)).fst) a b
                                                        { neg := r.fst, n := r.snd.fst, d := r.snd.snd.fst }).fst).fst.d ==
                                              r.snd.snd.fst &&
                                            true))) then
                                  some (OutE.ret (SV.val (Value.bool false)))
                                else
                                  bif
                                      !((convF ((resolveF (l)).fst) a a
                                                  { neg := r.fst, n := r.snd.fst, d := r.snd.snd.fst }).fst.neg ==
                                            r.fst &&
                                          ((convF ((resolveF (l)).fst) a a
                                                    { neg := r.fst, n := r.snd.fst, d := r.snd.snd.fst }).fst.n ==
                                              r.snd.fst &&
                                            ((convF ((resolveF (l)).fst) a a
                                                      { neg := r.fst, n := r.snd.fst, d := r.snd.snd.fst }).fst.d ==
                                                r.snd.snd.fst &&
                                              true))) then
                                    some (OutE.ret (SV.val (Value.bool false)))
                                  else
                                    bif
                                        wfT unitT.sl ((resolveF (l)).fst) &&
                                          (szB
                                              (convF ((resolveF (l)).fst) a b
                                                    { neg := r.fst, n := r.snd.fst, d := r.snd.snd.fst }).fst.n &&
                                            szB
                                              (convF ((resolveF (l)).fst) a b
                                                    { neg := r.fst, n := r.snd.fst, d := r.snd.snd.fst }).fst.d) then
                                      bif
                                          wfT unitT.sl ((resolveF (l)).fst) &&
                                            (szB r.snd.fst && szB r.snd.snd.fst) then
                                        bif
                                            (convF ((resolveF (l)).fst) b c
                                                  (convF ((resolveF (l)).fst) a b
                                                      { neg := r.fst, n := r.snd.fst, d := r.snd.snd.fst }).fst).snd ==
                                              (convF ((resolveF (l)).fst) a c
                                                  { neg := r.fst, n := r.snd.fst, d := r.snd.snd.fst }).snd then
                                          some
                                            (OutE.ret
                                              (SV.val
                                                (Value.bool
                                                  ((convF ((resolveF (l)).fst) b c
                                                            (convF ((resolveF (l)).fst) a b
                                                                { neg := r.fst, n := r.snd.fst,
                                                                  d := r.snd.snd.fst }).fst).fst.neg ==
                                                      (convF ((resolveF (l)).fst) a c
                                                            { neg := r.fst, n := r.snd.fst, d := r.snd.snd.fst }).fst.neg &&
                                                    ((convF ((resolveF (l)).fst) b c
                                                              (convF ((resolveF (l)).fst) a b
                                                                  { neg := r.fst, n := r.snd.fst,
                                                                    d := r.snd.snd.fst }).fst).fst.n ==
                                                        (convF ((resolveF (l)).fst) a c
                                                              { neg := r.fst, n := r.snd.fst, d := r.snd.snd.fst }).fst.n &&
                                                      ((convF ((resolveF (l)).fst) b c
                                                                (convF ((resolveF (l)).fst) a b
                                                                    { neg := r.fst, n := r.snd.fst,
                                                                      d := r.snd.snd.fst }).fst).fst.d ==
                                                          (convF ((resolveF (l)).fst) a c
                                                                { neg := r.fst, n := r.snd.fst,
                                                                  d := r.snd.snd.fst }).fst.d &&
                                                        true))))))
                                        else some (OutE.ret (SV.val (Value.bool false)))
                                      else none
                                    else none
                          else none
                        else none
                    else none
                else none
            else none
    else none := by kernel_rfl
set_option maxRecDepth 100000 in
theorem T_usums (l : List unitT.den) (a b : Int) (r s : ratT.den) : sxE Try.prog noL yCon 60 8 [.dsl unitT l, .val (.int .i64 a), .val (.int .i64 b), svT ratT r, svT ratT s] =
    bif wfT unitT.sl (l) then
      bif !fewU (l) then some (OutE.ret (SV.val (Value.bool true)))
      else
        bif decide ((↑(ByteArray.size r.snd.fst) : Int) > 40) then some (OutE.ret (SV.val (Value.bool true)))
        else
          bif decide ((↑(ByteArray.size r.snd.snd.fst) : Int) > 40) then some (OutE.ret (SV.val (Value.bool true)))
          else
            bif wfT unitT.sl (l) then
              bif !(resolveF (l)).snd == 0 then some (OutE.ret (SV.val (Value.bool true)))
              else
                bif decide ((↑(ByteArray.size s.snd.fst) : Int) > 40) then some (OutE.ret (SV.val (Value.bool true)))
                else
                  bif decide ((↑(ByteArray.size s.snd.snd.fst) : Int) > 40) then some (OutE.ret (SV.val (Value.bool true)))
                  else
                    bif szB r.snd.fst && szB r.snd.snd.fst then
                      bif checkR { neg := r.fst, n := r.snd.fst, d := r.snd.snd.fst } != 0 then
                        some (OutE.ret (SV.val (Value.bool true)))
                      else
                        bif szB s.snd.fst && szB s.snd.snd.fst then
                          bif checkR { neg := s.fst, n := s.snd.fst, d := s.snd.snd.fst } != 0 then
                            some (OutE.ret (SV.val (Value.bool true)))
                          else
                            bif wfT unitT.sl ((resolveF (l)).fst) && (szB r.snd.fst && szB r.snd.snd.fst) then
                              bif wfT unitT.sl ((resolveF (l)).fst) && (szB s.snd.fst && szB s.snd.snd.fst) then
                                bif
                                    (convF ((resolveF (l)).fst) a b
                                          { neg := r.fst, n := r.snd.fst, d := r.snd.snd.fst }).snd !=
                                      0 then
                                  some
                                    (OutE.ret
                                      (SV.val
                                        (Value.bool
                                          ((convF ((resolveF (l)).fst) a b
                                                { neg := r.fst, n := r.snd.fst, d := r.snd.snd.fst }).snd ==
                                            (convF ((resolveF (l)).fst) a b
                                                { neg := s.fst, n := s.snd.fst, d := s.snd.snd.fst }).snd))))
                                else
                                  bif
                                      (convF ((resolveF (l)).fst) a b
                                            { neg := s.fst, n := s.snd.fst, d := s.snd.snd.fst }).snd !=
                                        0 then
                                    some
                                      (OutE.ret
                                        (SV.val
                                          (Value.bool
                                            ((convF ((resolveF (l)).fst) a b
                                                  { neg := r.fst, n := r.snd.fst, d := r.snd.snd.fst }).snd ==
                                              (convF ((resolveF (l)).fst) a b
                                                  { neg := s.fst, n := s.snd.fst, d := s.snd.snd.fst }).snd))))
                                  else
                                    bif szB r.snd.fst && szB r.snd.snd.fst && (szB s.snd.fst && szB s.snd.snd.fst) then
                                      bif
                                          szB
                                                (convF ((resolveF (l)).fst) a b
                                                      { neg := r.fst, n := r.snd.fst, d := r.snd.snd.fst }).fst.n &&
                                              szB
                                                (convF ((resolveF (l)).fst) a b
                                                      { neg := r.fst, n := r.snd.fst, d := r.snd.snd.fst }).fst.d &&
                                            (szB
                                                (convF ((resolveF (l)).fst) a b
                                                      { neg := s.fst, n := s.snd.fst, d := s.snd.snd.fst }).fst.n &&
                                              szB
                                                (convF ((resolveF (l)).fst) a b
                                                      { neg := s.fst, n := s.snd.fst, d := s.snd.snd.fst }).fst.d) then
                                        bif
                                            wfT unitT.sl ((resolveF (l)).fst) &&
                                              (szB
                                                  (addR { neg := r.fst, n := r.snd.fst, d := r.snd.snd.fst }
                                                        { neg := s.fst, n := s.snd.fst, d := s.snd.snd.fst }).fst.n &&
                                                szB
                                                  (addR { neg := r.fst, n := r.snd.fst, d := r.snd.snd.fst }
                                                        { neg := s.fst, n := s.snd.fst, d := s.snd.snd.fst }).fst.d) then
                                          bif
                                              szB r.snd.fst && szB r.snd.snd.fst &&
                                                (szB s.snd.fst && szB s.snd.snd.fst) then
                                            bif
                                                szB
                                                      (convF ((resolveF (l)).fst) a b
                                                            { neg := r.fst, n := r.snd.fst, d := r.snd.snd.fst }).fst.n &&
                                                    szB
                                                      (convF ((resolveF (l)).fst) a b
                                                            { neg := r.fst, n := r.snd.fst, d := r.snd.snd.fst }).fst.d &&
                                                  (szB
                                                      (convF ((resolveF (l)).fst) a b
                                                            { neg := s.fst, n := s.snd.fst, d := s.snd.snd.fst }).fst.n &&
                                                    szB
                                                      (convF ((resolveF (l)).fst) a b
                                                            { neg := s.fst, n := s.snd.fst,
                                                              d := s.snd.snd.fst }).fst.d) then
                                              bif
                                                  (addR { neg := r.fst, n := r.snd.fst, d := r.snd.snd.fst }
                                                        { neg := s.fst, n := s.snd.fst, d := s.snd.snd.fst }).snd ==
                                                    0 then
                                                bif
                                                    (addR
                                                          (convF ((resolveF (l)).fst) a b
                                                              { neg := r.fst, n := r.snd.fst, d := r.snd.snd.fst }).fst
                                                          (convF ((resolveF (l)).fst) a b
                                                              { neg := s.fst, n := s.snd.fst,
                                                                d := s.snd.snd.fst }).fst).snd ==
                                                      0 then
                                                  bif
                                                      (convF ((resolveF (l)).fst) a b
                                                            (addR { neg := r.fst, n := r.snd.fst, d := r.snd.snd.fst }
                                                                { neg := s.fst, n := s.snd.fst,
                                                                  d := s.snd.snd.fst }).fst).snd ==
                                                        0 then
                                                    bif
                                                        (cmpR { neg := r.fst, n := r.snd.fst, d := r.snd.snd.fst }
                                                              { neg := s.fst, n := s.snd.fst, d := s.snd.snd.fst }).snd ==
                                                          0 then
                                                      bif
                                                          (cmpR
                                                                (convF ((resolveF (l)).fst) a b
                                                                    { neg := r.fst, n := r.snd.fst,
                                                                      d := r.snd.snd.fst }).fst
                                                                (convF ((resolveF (l)).fst) a b
                                                                    { neg := s.fst, n := s.snd.fst,
                                                                      d := s.snd.snd.fst }).fst).snd ==
                                                            0 then
                                                        bif
                                                            (convF ((resolveF (l)).fst) a b
                                                                      (addR
                                                                          { neg := r.fst, n := r.snd.fst,
                                                                            d := r.snd.snd.fst }
                                                                          { neg := s.fst, n := s.snd.fst,
                                                                            d := s.snd.snd.fst }).fst).fst.neg ==
                                                                (addR
                                                                      (convF ((resolveF (l)).fst) a b
                                                                          { neg := r.fst, n := r.snd.fst,
                                                                            d := r.snd.snd.fst }).fst
                                                                      (convF ((resolveF (l)).fst) a b
                                                                          { neg := s.fst, n := s.snd.fst,
                                                                            d := s.snd.snd.fst }).fst).fst.neg &&
                                                              ((convF ((resolveF (l)).fst) a b
                                                                        (addR
                                                                            { neg := r.fst, n := r.snd.fst,
                                                                              d := r.snd.snd.fst }
                                                                            { neg := s.fst, n := s.snd.fst,
                                                                              d := s.snd.snd.fst }).fst).fst.n ==
                                                                  (addR
                                                                        (convF ((resolveF (l)).fst) a b
                                                                            { neg := r.fst, n := r.snd.fst,
                                                                              d := r.snd.snd.fst }).fst
                                                                        (convF ((resolveF (l)).fst) a b
                                                                            { neg := s.fst, n := s.snd.fst,
                                                                              d := s.snd.snd.fst }).fst).fst.n &&
                                                                ((convF ((resolveF (l)).fst) a b
                                                                          (addR
                                                                              { neg := r.fst, n := r.snd.fst,
                                                                                d := r.snd.snd.fst }
                                                                              { neg := s.fst, n := s.snd.fst,
                                                                                d := s.snd.snd.fst }).fst).fst.d ==
                                                                    (addR
                                                                          (convF ((resolveF (l)).fst) a b
                                                                              { neg := r.fst, n := r.snd.fst,
                                                                                d := r.snd.snd.fst }).fst
                                                                          (convF ((resolveF (l)).fst) a b
                                                                              { neg := s.fst, n := s.snd.fst,
                                                                                d := s.snd.snd.fst }).fst).fst.d &&
                                                                  true)) then
                                                          some
                                                            (OutE.ret
                                                              (SV.val
                                                                (Value.bool
                                                                  ((cmpR
                                                                        { neg := r.fst, n := r.snd.fst, d := r.snd.snd.fst }
                                                                        { neg := s.fst, n := s.snd.fst,
                                                                          d := s.snd.snd.fst }).fst ==
                                                                    (cmpR
                                                                        (convF ((resolveF (l)).fst) a b
                                                                            { neg := r.fst, n := r.snd.fst,
                                                                              d := r.snd.snd.fst }).fst
                                                                        (convF ((resolveF (l)).fst) a b
                                                                            { neg := s.fst, n := s.snd.fst,
                                                                              d := s.snd.snd.fst }).fst).fst))))
                                                        else some (OutE.ret (SV.val (Value.bool false)))
                                                      else some (OutE.ret (SV.val (Value.bool false)))
                                                    else some (OutE.ret (SV.val (Value.bool false)))
                                                  else some (OutE.ret (SV.val (Value.bool false)))
                                                else some (OutE.ret (SV.val (Value.bool false)))
                                              else some (OutE.ret (SV.val (Value.bool false)))
                                            else none
                                          else none
                                        else none
                                      else none
                                    else none
                              else none
                            else none
                        else none
                    else none
            else none
    else none := by kernel_rfl

end Go.Proofs.Ytmcejefeloljiaa

/-
  Units: the laws of what is resolved, of converting there and back, and of sums.
-/
namespace Go.Proofs.Ytmcejefeloljiaa
set_option linter.unusedSimpArgs false
set_option linter.unusedVariables false
open Go.RowKit Nm Go.SX

theorem res_or (l : List unitT.den) : ((resolveF l).2 ≠ 0 ∧ (resolveF l).1 = []) ∨ ((resolveF l).2 = 0 ∧ Res l (resolveF l).1) := by
  by_cases h : (resolveF l).2 = 0
  · exact .inr ⟨h, res_of h⟩
  · exact .inl ⟨h, resolve_err h⟩
theorem unitsResolved_end (l : List unitT.den) (hl : Wf (.sl unitT) l) : sxE Try.prog (urAL l (resolveF l).1) yCon 60 5 [.dsl unitT l] = some (.ret (.val (.bool true))) := by
  have h1 := wfT_iff.2 hl
  have h2 := wfT_iff.2 (resolve_wf hl)
  rcases res_or l with ⟨h3, h4⟩ | ⟨h3, h4⟩
  · rw [T_uresolved, h1]
    have h5 : ((resolveF l).2 != 0) = true := by simpa using h3
    have h6 : checkFU l = (resolveF l).2 := by unfold checkFU; rw [h5]; rfl
    rw [h5, h4, h6]
    simp only [cond_true, List.length_nil]
    cases fewU l <;> simp
  · rw [T_uresolved, h1, h2]
    rw [eqS_cond]
    · rw [law_ok h4, h4.check, resolve_iff.2 h4.again, h3, h4.len]
      simp only [cond_true, exOk_ok, bne_self_eq_false, cond_false, eqLU_rfl, Bool.not_true]
      cases fewU l <;> rfl
    · kernel_rfl
theorem unitsResolved_law (l : List unitT.den) (hl : Wf (.sl unitT) l) : DPlain Try.prog 5 [svA false (.sl unitT) l] (.ret (.val (.bool true))) := by
  have hle : (resolveF l).1.length ≤ l.length := by
    rcases res_or l with ⟨_, h4⟩ | ⟨_, h4⟩
    · rw [h4]; exact Nat.zero_le _
    · rw [h4.len]; exact Nat.le_refl _
  exact (sxE_sound pOk yCon_ok (urAL_ok _ _ hl (resolve_wf hl) hle) 60 (unitsResolved_end l hl)).2
theorem few_len {l x : List unitT.den} (h : fewU l = true) (hx : Res l x) : x.length ≤ 8 := by rw [hx.len]; exact (fewU_iff.1 h).1
/-- a valid ratio that is not long -/
theorem rat_of {r : ratT.den} (h1 : decide (((ByteArray.size r.2.1 : Nat) : Int) > 40) = false) (h2 : decide (((ByteArray.size r.2.2.1 : Nat) : Int) > 40) = false) (h3 : (checkR (toRt r) != 0) = false) : ∃ q, toRt r = toR q ∧ Bd q 40 := by
  have h3' : checkR (toRt r) = 0 := by simpa using h3
  obtain ⟨q, e, _⟩ := valid_toR h3'
  refine ⟨q, e, Bd.of_size (k := 40) ?_ ?_⟩
  · rw [← e]; have := of_decide_eq_false h1; show ByteArray.size r.2.1 ≤ 40; omega
  · rw [← e]; have := of_decide_eq_false h2; show ByteArray.size r.2.2.1 ≤ 40; omega
theorem conv_two {l x : List unitT.den} (h : Res l x) (h8 : x.length ≤ 8) {a b : Int} (hb : conB x a b = false) : ∃ p1 p2 : Rat, scU (atU x a) = toR p1 ∧ Bd p1 24 ∧ 0 < p1 ∧ scU (atU x b) = toR p2 ∧ Bd p2 24 ∧ 0 < p2 := by
  obtain ⟨ha, hb', _⟩ := conB_parts hb
  obtain ⟨p1, e1, b1, g1⟩ := h.scaleZ h8 ha
  obtain ⟨p2, e2, b2, g2⟩ := h.scaleZ h8 hb'
  exact ⟨p1, p2, e1, b1, g1, e2, b2, g2⟩
theorem back_end (l : List unitT.den) (a b c : Int) (r : ratT.den) (hl : Wf (.sl unitT) l) (hr : Wf ratT r) :
    sxE Try.prog noL yCon 60 6 [.dsl unitT l, .val (.int .i64 a), .val (.int .i64 b), .val (.int .i64 c), svT ratT r] = some (.ret (.val (.bool true))) := by
  rw [T_uback]
  have h1 := wfT_iff.2 hl
  have h2 := wfT_iff.2 (resolve_wf hl)
  have h3 : (szB r.2.1 && szB r.2.2.1) = true := by rw [szB_iff.2 hr.2.1, szB_iff.2 hr.2.2.1]; rfl
  have e : (⟨r.1, r.2.1, r.2.2.1⟩ : Rt) = toRt r := rfl
  simp only [h1, h2, h3, cond_true, e, Bool.and_self]
  cases hf : fewU l with
  | false => rfl
  | true =>
    simp only [Bool.not_true, cond_false]
    cases s1 : decide (((ByteArray.size r.2.1 : Nat) : Int) > 40) with
    | true => rfl
    | false =>
      simp only [cond_false]
      cases s2 : decide (((ByteArray.size r.2.2.1 : Nat) : Int) > 40) with
      | true => rfl
      | false =>
        simp only [cond_false]
        cases h4 : (resolveF l).2 == 0 with
        | false => rfl
        | true =>
          simp only [Bool.not_true, cond_false]
          have hR := res_of (eq_of_beq h4)
          generalize (resolveF l).1 = x at hR
          have h8 := few_len hf hR
          cases h5 : checkR (toRt r) != 0 with
          | true => rfl
          | false =>
            simp only [cond_false]
            obtain ⟨q, eq, hq⟩ := rat_of s1 s2 h5
            have p1 : r.1 = (toR q).neg := by rw [← eq]; rfl
            have p2 : r.2.1 = (toR q).n := by rw [← eq]; rfl
            have p3 : r.2.2.1 = (toR q).d := by rw [← eq]; rfl
            rw [eq]
            cases hb : conB x a b with
            | true =>
              rw [conv_no hR _ hb]
              rfl
            | false =>
              obtain ⟨u, v, eu, bu, gu, ev, bv, gv⟩ := conv_two hR h8 hb
              have nu : u ≠ 0 := fun e => by rw [e] at gu; exact absurd gu (by decide)
              have nv : v ≠ 0 := fun e => by rw [e] at gv; exact absurd gv (by decide)
              obtain ⟨c1, d1⟩ := conv_yes hR h8 hb hq (by omega) eu bu ev bv gv
              obtain ⟨ha', hb', hab⟩ := conB_parts hb
              obtain ⟨c2, _⟩ := conv_yes hR h8 (conB_mk hb' ha' hab.symm) d1 (by omega) ev bv eu bu gu
              obtain ⟨c3, _⟩ := conv_yes hR h8 (conB_mk ha' ha' rfl) hq (by omega) eu bu eu bu gu
              have r1 : q * u / v * v / u = q := by grind
              have r2 : q * u / u = q := by grind
              rw [r1] at c2
              rw [r2] at c3
              have z1 := szE d1 (by omega)
              rw [c1, c2, c3, z1, p1, p2, p3]
              simp only [bne_self_eq_false, cond_false, cond_true, beq_self_eq_true, Bool.and_self, Bool.not_true]
              have bb : ∀ s : ByteArray, (s == s) = true := fun s => by rw [beqB]; exact decide_eq_true rfl
              simp only [bb, Bool.and_self, Bool.not_true, cond_false]
              cases hc : conB x b c with
              | true =>
                have hc' : conB x a c = true := by
                  rw [← Bool.not_eq_false]
                  intro hac
                  obtain ⟨_, f2, f3⟩ := conB_parts hac
                  rw [conB_mk hb' f2 (hab.symm.trans f3)] at hc
                  cases hc
                rw [conv_no hR _ hc, conv_no hR _ hc']
                rfl
              | false =>
                obtain ⟨_, f2, f3⟩ := conB_parts hc
                have hc' : conB x a c = false := conB_mk ha' f2 (hab.trans f3)
                obtain ⟨_, t, _, _, _, et, bt, gt⟩ := conv_two hR h8 hc
                have nt : t ≠ 0 := fun e => by rw [e] at gt; exact absurd gt (by decide)
                obtain ⟨c4, _⟩ := conv_yes hR h8 hc d1 (by omega) ev bv et bt gt
                obtain ⟨c5, _⟩ := conv_yes hR h8 hc' hq (by omega) eu bu et bt gt
                have r3 : q * u / v * v / t = q * u / t := by grind
                rw [r3] at c4
                rw [c4, c5]
                simp [bb]
end Go.Proofs.Ytmcejefeloljiaa

/-
  Units: the law of sums.
-/
namespace Go.Proofs.Ytmcejefeloljiaa
set_option linter.unusedSimpArgs false
set_option linter.unusedVariables false
open Go.RowKit Nm Go.SX

theorem cmpQ_scale {q s u v : Rat} (hu : 0 < u) (hv : 0 < v) : cmpQ (q * u / v) (s * u / v) = cmpQ q s := by
  have hc : 0 < u * v⁻¹ := Rat.mul_pos hu (Rat.inv_pos.2 hv)
  have e1 : q * u / v = q * (u * v⁻¹) := by rw [Rat.div_def, Rat.mul_assoc]
  have e2 : s * u / v = s * (u * v⁻¹) := by rw [Rat.div_def, Rat.mul_assoc]
  rw [e1, e2]
  generalize u * v⁻¹ = c at hc
  have l1 : q * c < s * c ↔ q < s := Rat.mul_lt_mul_right hc
  have l2 : q * c = s * c ↔ q = s := by
    constructor
    · intro h
      have hc0 : c ≠ 0 := fun e => by rw [e] at hc; exact absurd hc (by decide)
      grind
    · intro h; rw [h]
  unfold cmpQ
  simp only [l1, l2]
theorem sums_end (l : List unitT.den) (a b : Int) (r s : ratT.den) (hl : Wf (.sl unitT) l) (hr : Wf ratT r) (hs : Wf ratT s) :
    sxE Try.prog noL yCon 60 8 [.dsl unitT l, .val (.int .i64 a), .val (.int .i64 b), svT ratT r, svT ratT s] = some (.ret (.val (.bool true))) := by
  rw [T_usums]
  have h1 := wfT_iff.2 hl
  have h2 := wfT_iff.2 (resolve_wf hl)
  have h3 : (szB r.2.1 && szB r.2.2.1) = true := by rw [szB_iff.2 hr.2.1, szB_iff.2 hr.2.2.1]; rfl
  have h3' : (szB s.2.1 && szB s.2.2.1) = true := by rw [szB_iff.2 hs.2.1, szB_iff.2 hs.2.2.1]; rfl
  have e : (⟨r.1, r.2.1, r.2.2.1⟩ : Rt) = toRt r := rfl
  have e' : (⟨s.1, s.2.1, s.2.2.1⟩ : Rt) = toRt s := rfl
  simp only [h1, h2, h3, h3', cond_true, e, e', Bool.and_self]
  cases hf : fewU l with
  | false => rfl
  | true =>
    simp only [Bool.not_true, cond_false]
    cases s1 : decide (((ByteArray.size r.2.1 : Nat) : Int) > 40) with
    | true => rfl
    | false =>
    cases s2 : decide (((ByteArray.size r.2.2.1 : Nat) : Int) > 40) with
    | true => rfl
    | false =>
    cases h4 : (resolveF l).2 == 0 with
    | false => rfl
    | true =>
    cases s3 : decide (((ByteArray.size s.2.1 : Nat) : Int) > 40) with
    | true => rfl
    | false =>
    cases s4 : decide (((ByteArray.size s.2.2.1 : Nat) : Int) > 40) with
    | true => rfl
    | false =>
    simp only [Bool.not_true, cond_false]
    have hR := res_of (eq_of_beq h4)
    generalize (resolveF l).1 = x at hR
    have h8 := few_len hf hR
    cases h5 : checkR (toRt r) != 0 with
    | true => rfl
    | false =>
    cases h6 : checkR (toRt s) != 0 with
    | true => rfl
    | false =>
    simp only [cond_false]
    obtain ⟨q, eq, hq⟩ := rat_of s1 s2 h5
    obtain ⟨t, et, ht⟩ := rat_of s3 s4 h6
    rw [eq, et]
    have bb : ∀ s : ByteArray, (s == s) = true := fun s => by rw [beqB]; exact decide_eq_true rfl
    cases hb : conB x a b with
    | true =>
      rw [conv_no hR _ hb, conv_no hR _ hb]
      rfl
    | false =>
      obtain ⟨u, v, eu, bu, gu, ev, bv, gv⟩ := conv_two hR h8 hb
      have nu : u ≠ 0 := fun e => by rw [e] at gu; exact absurd gu (by decide)
      have nv : v ≠ 0 := fun e => by rw [e] at gv; exact absurd gv (by decide)
      obtain ⟨c1, d1⟩ := conv_yes hR h8 hb hq (by omega) eu bu ev bv gv
      obtain ⟨c2, d2⟩ := conv_yes hR h8 hb ht (by omega) eu bu ev bv gv
      have a1 := add_toR hq ht (by omega)
      have a2 := add_toR d1 d2 (by omega)
      have d3 := add_bd hq ht (by omega)
      obtain ⟨c3, _⟩ := conv_yes hR h8 hb d3 (by omega) eu bu ev bv gv
      have r1 : (q + t) * u / v = q * u / v + t * u / v := by grind
      rw [r1] at c3
      have z1 := szE d1 (by omega)
      have z2 := szE d2 (by omega)
      have z3 := szE d3 (by omega)
      rw [a1, c1, c2, c3, a2, cmp_toR hq ht (by omega), cmp_toR d1 d2 (by omega), cmpQ_scale gu gv, z1, z2, z3]
      simp only [bne_self_eq_false, cond_false, cond_true, beq_self_eq_true, Bool.and_self, bb]
theorem unitsBack_law (l : List unitT.den) (a b c : Int) (r : ratT.den) (hl : Wf (.sl unitT) l) (_ : Wf (.int .i64) a) (_ : Wf (.int .i64) b) (_ : Wf (.int .i64) c) (hr : Wf ratT r) :
    DPlain Try.prog 6 [svA false (.sl unitT) l, svA false (.int .i64) a, svA false (.int .i64) b, svA false (.int .i64) c, svA true ratT r] (.ret (.val (.bool true))) :=
  (sxE_sound pOk yCon_ok noL_ok 60 (back_end l a b c r hl hr)).2
theorem unitsSums_law (l : List unitT.den) (a b : Int) (r s : ratT.den) (hl : Wf (.sl unitT) l) (_ : Wf (.int .i64) a) (_ : Wf (.int .i64) b) (hr : Wf ratT r) (hs : Wf ratT s) :
    DPlain Try.prog 8 [svA false (.sl unitT) l, svA false (.int .i64) a, svA false (.int .i64) b, svA true ratT r, svA true ratT s] (.ret (.val (.bool true))) :=
  (sxE_sound pOk yCon_ok noL_ok 60 (sums_end l a b r s hl hr hs)).2
end Go.Proofs.Ytmcejefeloljiaa

