/- Walk of the reference's TreeText. -/
import Derived.Test.YtdcndkojmflhnaaDoorTextB
set_option linter.unusedVariables false
set_option linter.unusedSimpArgs false
set_option maxRecDepth 100000
set_option maxHeartbeats 8000000
namespace Go.Proofs.YtdcndkojmflhnaaDoor
open Go.RowKit
theorem svAt {α : Type} {sz : Nat} {E : World → Nat → Nat → α → Prop} {w : World} {v : Value} {l : List α} (hv : SV sz E w v l) : ∃ a cap, v = .slice a l.length cap ∧ l.length ≤ cap ∧ cap ≤ 9223372036854775807 ∧ l.length ≤ 17592186044416 ∧
    (1 ≤ l.length → ∃ b off, a = some ⟨b, off, none⟩ ∧ b < w.heap.size ∧ ∀ k x, l[k]? = some x → E w b (off + k * sz) x) := by
  rcases hv with ⟨rfl, a, cap, rfl, h⟩ | ⟨b, off, cap, rfl, h1, h2, h3, h4, h5⟩
  · exact ⟨a, cap, rfl, by simp, h, by simp, fun h => by simp at h⟩
  · exact ⟨_, cap, rfl, h1, h2, h3, fun _ => ⟨b, off, rfl, h4, h5⟩⟩
/-- the first k lines -/
def partB (l : List Queue) (k : Nat) : By := ((l.take k).map fun q => lineB l q ++ [10]).flatten
theorem partB_zero (l : List Queue) : partB l 0 = [] := by simp [partB]
theorem partB_step {l : List Queue} {k : Nat} {x : Queue} (h : l[k]? = some x) : partB l (k + 1) = partB l k ++ (headB l x ++ 58 :: capB x.Cap ++ [10]) := by
  unfold partB
  rw [List.take_add_one, h]
  simp [lineB]
theorem partB_all {l : List Queue} {k : Nat} (h : l.length ≤ k) : partB l k = treeB l := by
  unfold partB treeB; rw [List.take_of_length_le h]
theorem partB_rest (l : List Queue) (k : Nat) : treeB l = partB l k ++ restB l k := by
  unfold treeB partB restB
  rw [← List.flatten_append, ← List.map_append, List.take_append_drop]
theorem partB_len {l : List Queue} (h : TreeOk l) (k : Nat) : (partB l k).length ≤ 1605 := by
  have h1 := tree_len h
  rw [partB_rest l k] at h1
  simp at h1; omega
def capK (f : List Run) (i : Nat) : By := capB (f.take i)
theorem capK_step {f : List Run} {i : Nat} {y : Run} (h : f[i]? = some y) : capK f (i + 1) = capK f i ++ (32 :: runB y) := by
  unfold capK capB
  rw [List.take_add_one, h]; simp
theorem capK_len {f : List Run} (h : CapOk f) (i : Nat) : (capK f i).length ≤ 288 := by
  have h1 := capB_le (f.take i) (fun x hx => cap_mem h x (List.mem_of_mem_take hx))
  have h2 := cap_len h
  have h3 : (f.take i).length ≤ f.length := by simp; omega
  unfold capK; omega
theorem cTx (a : Array UInt8) : (⟨a⟩ : ByteArray) = tx a.toList := by unfold tx; simp
/-- what the reference's TreeText answers, of right queues -/
theorem TreeText_any (w : World) (v : Value) (l : List Queue) (hv : QueuesV w v l) (ok : TreeOk l) :
    Calls Tryd.prog 7 #[v] w fun e w' => e = .returned (.string (tx (treeB l))) ∧ Ext w w' := by
  obtain ⟨fa, fc, rfl, _, _, _, hfE⟩ := svAt hv
  have HF := hid hfE
  have HOK := hid ok
  clear hv hfE ok
  generalize hn : l.length = n at *
  have Hn := hid hn
  clear hn
  go_enter Tryd.func7, Tryd.ntmps7
  go_wp2_with fail
  go_loopw [3, 4] (fun s c wr => ∃ (k : Nat) (S : ByteArray), c = .int .i64 k ∧ s = .string S ∧ k ≤ n ∧ Hid (S = tx (partB l k)) ∧ Ext w wr) (fun s c _ => n - (intOf c).toNat)
  case atStart => exact ⟨0, _, rfl, rfl, by omega, hid (by rw [partB_zero]; rfl), Ext.rf w⟩
  case round =>
    obtain ⟨k, S, rfl, rfl, hk, HS, hx⟩ := hrel
    by_cases hlt : k < n
    · have hlt' : (k : Int) < (n : Int) := by omega
      obtain ⟨x, hxk⟩ := getA (f := l) (k := k) (by rw [Hn.out]; exact hlt)
      have hkl : k < l.length := by rw [Hn.out]; exact hlt
      have hxe : l[k] = x := by have := List.getElem?_eq_getElem hkl; rw [this] at hxk; injection hxk
      have hnm : nm l k = x.Name := by unfold nm; rw [List.getD_eq_getElem?_getD, hxk]; rfl
      have hpar : par l k = x.Parent := by unfold par; rw [List.getD_eq_getElem?_getD, hxk]; rfl
      have hcp : cp l k = x.Cap := by unfold cp; rw [List.getD_eq_getElem?_getD, hxk]; rfl
      have hcap : CapOk x.Cap := by have := HOK.out.caps k hkl; rwa [hcp] at this
      have hnl := (HOK.out.names k hkl).1.2; rw [hnm] at hnl
      have hpp := HOK.out.pars k hkl; rw [hpar] at hpp
      have hS : S.size ≤ 1605 := by rw [HS.out, tx_size]; exact partB_len HOK.out k
      obtain ⟨fb, fo, rfl, hfb, hfe⟩ := HF.out (by omega)
      obtain ⟨c0, _, c1, _, cv, c2, hu⟩ := EQueue.mono w wr fb _ x hx (hfe k x hxk)
      have t1 := deF (show ¬ (k : Int) < 0 by omega)
      have t2 := deF (show ¬ (n : Int) ≤ (k : Int) by omega)
      have t3 := deF (show ¬ n ≤ k by omega)
      by_cases h0 : 0 ≤ x.Parent
      · obtain ⟨p, hp⟩ : ∃ p : Nat, x.Parent = p := ⟨x.Parent.toNat, by omega⟩
        have hpk : p < k := by have := hpp.2; omega
        obtain ⟨y, hyp⟩ := getA (f := l) (k := p) (by rw [Hn.out]; omega)
        have hpl : p < l.length := by rw [Hn.out]; omega
        have hynm : nm l p = y.Name := by unfold nm; rw [List.getD_eq_getElem?_getD, hyp]; rfl
        have hyl := (HOK.out.names p hpl).1.2; rw [hynm] at hyl
        obtain ⟨d0, _⟩ := EQueue.mono w wr fb _ y hx (hfe p y hyp)
        have HH := hid (show headB l x = bs x.Name ++ ([32, 60, 32] ++ bs y.Name) from by unfold headB; rw [if_pos h0, hp, Int.toNat_natCast, hynm])
        rw [hp] at c1 h0
        have u1 := deF (show ¬ (p : Int) < 0 by omega)
        have u2 := deF (show ¬ (n : Int) ≤ (p : Int) by omega)
        have u3 := deF (show ¬ n ≤ p by omega)
        have HLT := hid hlt
        have HFE := hid (show ∀ k x, l[k]? = some x → EQueue w fb (fo + k * 3) x from hfe)
        have HXK := hid hxk
        have HCAP := hid hcap
        obtain ⟨m, hm⟩ : ∃ m, x.Cap.length = m := ⟨_, rfl⟩
        have HM := hid hm
        have hm48 : m ≤ 48 := by rw [← hm]; exact cap_len hcap
        obtain ⟨ua, uc, rfl, _, _, _⟩ := hu.form
        rw [hm] at c2
        have HHL := hid (show (headB l x).length ≤ 30 from by rw [HH.out]; have e1 := bs_len x.Name; have e2 := bs_len y.Name; simp only [List.length_append, List.length_cons, List.length_nil]; omega)
        clear hfe hxe hnm hpar hcp hpp hynm hkl hpl hyp hcap hxk hm hu
        obtain ⟨N, hN⟩ : ∃ N, x.Name = N := ⟨_, rfl⟩
        obtain ⟨M, hM⟩ : ∃ M, y.Name = M := ⟨_, rfl⟩
        rw [hN] at c0 hnl
        rw [hM] at d0 hyl
        have HN := hid hN
        have HMn := hid hM
        clear hN hM
        go_wp2_with fail
        go_loopw [3, 5] (fun s c wr => ∃ (i : Nat) (S2 : ByteArray), c = .int .i64 i ∧ s = .string S2 ∧ i ≤ m ∧ Hid (S2 = tx (partB l k ++ (headB l x ++ 58 :: capK x.Cap i))) ∧ Ext w wr) (fun s c _ => m - (intOf c).toNat)
        case atStart => exact ⟨0, _, rfl, rfl, by omega, hid (by rw [HS.out, HH.out, HN.out, HMn.out, show capK x.Cap 0 = [] from by simp [capK, capB], ← tx_bs N, ← tx_bs M]; simp only [cTx, tx_app, bs_tx, List.append_assoc, List.cons_append, List.nil_append]), hx⟩
        case round =>
          obtain ⟨i, S2, rfl, rfl, hi, HS2, hx2⟩ := hrel
          have hx3 : Ext w wr := hx2
          have hS2 : S2.size ≤ 2000 := by
            rw [HS2.out, tx_size]
            have a1 := partB_len HOK.out k
            have a2 := capK_len HCAP.out i
            have a3 := HHL.out
            simp only [List.length_append, List.length_cons]; omega
          obtain ⟨c0, _, c1, _, cv2, c2', hu2⟩ := EQueue.mono w wr fb _ x hx2 (HFE.out k x HXK.out)
          obtain ⟨ra, rc, hcv2, _, _, _, hrE⟩ := svAt hu2
          by_cases hil : i < m
          · have hil' : (i : Int) < (m : Int) := by omega
            obtain ⟨y, hyi⟩ := getA (f := x.Cap) (k := i) (by rw [HM.out]; exact hil)
            obtain ⟨rb, ro, rfl, hrb, hre⟩ := hrE (by rw [HM.out]; omega)
            obtain ⟨e0, e1, _⟩ := hre i y hyi
            have hym := cap_mem HCAP.out y (List.mem_of_getElem? hyi)
            obtain ⟨ya, hya⟩ : ∃ ya : Nat, y.At = ya := ⟨y.At.toNat, by omega⟩
            obtain ⟨yn, hyn⟩ : ∃ yn : Nat, y.N = yn := ⟨y.N.toNat, by omega⟩
            rw [HM.out] at hcv2
            subst hcv2
            have HY := hid (show capK x.Cap (i + 1) = capK x.Cap i ++ (32 :: (dig ya ++ 61 :: dig yn)) from by rw [capK_step hyi]; unfold runB; rw [hya, hyn]; rfl)
            have e0' : wr.cell? ⟨rb, ro + i * 2, none⟩ = some (.int .i64 ya) := by rw [← hya]; exact e0
            have e1' : wr.cell? ⟨rb, ro + i * 2 + 1, none⟩ = some (.int .i64 yn) := by rw [← hyn]; exact e1
            have la : ya < 100 := by omega
            have ln : yn < 100 := by omega
            have zc2 := fun p : Later wr => p.cell c2'
            have z0 := fun p : Later wr => p.cell e0'
            have z1 := fun p : Later wr => p.cell e1'
            have M1 := hid (fun p : Later wr => later_of p (v := .string (tx (dig ya))) (Digits_any ya la p.v))
            have M2 := hid (fun p : Later wr => later_of p (v := .string (tx (dig yn))) (Digits_any yn ln p.v))
            have s1 : (tx (dig ya)).size ≤ 2 := by rw [tx_size]; exact (dig_len ya la).2
            have s2 : (tx (dig yn)).size ≤ 2 := by rw [tx_size]; exact (dig_len yn ln).2
            have v1 := deF (show ¬ (i : Int) < 0 by omega)
            have v2 := deF (show ¬ (m : Int) ≤ (i : Int) by omega)
            have v3 := deF (show ¬ m ≤ i by omega)
            clear hre hrE hyi e0 e1 e0' e1' hym hya hyn c0 c1 hu2
            obtain ⟨da, hda⟩ : ∃ da, tx (dig ya) = da := ⟨_, rfl⟩
            obtain ⟨dn, hdn⟩ : ∃ dn, tx (dig yn) = dn := ⟨_, rfl⟩
            rw [hda] at M1 s1
            rw [hdn] at M2 s2
            have HDA := hid hda
            have HDN := hid hdn
            clear hda hdn
            have HIL := hid hil
            go_wp2_with fail
            refine region_later (by kernel_rfl) (by kernel_rfl) ?_
            repeat (go_big_quiet_step (first | with_reducible exact M1.out _ | with_reducible exact M2.out _))
            refine wpQuiet_nil ?_
            rintro w' ⟨p, rfl⟩
            have HX := hid (hx3.tr p.h)
            clear M1 M2 zc2 z0 z1
            generalize p.v = W at *
            go_wp2_with fail
            go_roundw
            case rel =>
              refine ⟨i + 1, _, by go_num, rfl, HIL.out, hid ?_, HX.out⟩
              rw [HS2.out, HY.out, ← HDA.out, ← HDN.out]
              simp only [cTx, tx_app, List.append_assoc, List.cons_append, List.nil_append]
            case measure => have := HIL.out; simp [intOf]; omega
          · obtain rfl : i = m := by omega
            have hil' : ¬ (i : Int) < (i : Int) := by omega
            rw [HM.out] at hcv2
            subst hcv2
            clear hrE hu2 c0 c1
            go_wp2_with fail
            go_roundw
            case rel =>
              refine ⟨k + 1, _, by go_num, rfl, HLT.out, hid ?_, hx3⟩
              rw [partB_step HXK.out, HS2.out, show capK x.Cap i = capB x.Cap from by unfold capK; rw [List.take_of_length_le (by rw [HM.out]; exact Nat.le_refl _)]]
              simp only [cTx, tx_app, List.append_assoc, List.cons_append, List.nil_append]
            case measure => have := HLT.out; simp [intOf]; omega
      · have HLT := hid hlt
        have HFE := hid (show ∀ k x, l[k]? = some x → EQueue w fb (fo + k * 3) x from hfe)
        have HXK := hid hxk
        have HCAP := hid hcap
        obtain ⟨m, hm⟩ : ∃ m, x.Cap.length = m := ⟨_, rfl⟩
        have HM := hid hm
        have hm48 : m ≤ 48 := by rw [← hm]; exact cap_len hcap
        obtain ⟨ua, uc, rfl, _, _, _⟩ := hu.form
        rw [hm] at c2
        have HH := hid (show headB l x = bs x.Name from by unfold headB; rw [if_neg h0]; simp)
        have HHL := hid (show (headB l x).length ≤ 30 from by rw [HH.out]; have e1 := bs_len x.Name; omega)
        clear hfe hxe hnm hpar hcp hpp hkl hcap hxk hm hu
        obtain ⟨N, hN⟩ : ∃ N, x.Name = N := ⟨_, rfl⟩
        rw [hN] at c0 hnl
        have HN := hid hN
        clear hN
        obtain ⟨pp, hp⟩ : ∃ pp, x.Parent = pp := ⟨_, rfl⟩
        rw [hp] at c1 h0
        clear hp
        go_wp2_with fail
        go_loopw [3, 5] (fun s c wr => ∃ (i : Nat) (S2 : ByteArray), c = .int .i64 i ∧ s = .string S2 ∧ i ≤ m ∧ Hid (S2 = tx (partB l k ++ (headB l x ++ 58 :: capK x.Cap i))) ∧ Ext w wr) (fun s c _ => m - (intOf c).toNat)
        case atStart => exact ⟨0, _, rfl, rfl, by omega, hid (by rw [HS.out, HH.out, HN.out, show capK x.Cap 0 = [] from by simp [capK, capB], ← tx_bs N]; simp only [cTx, tx_app, bs_tx, List.append_assoc, List.cons_append, List.nil_append]), hx⟩
        case round =>
          obtain ⟨i, S2, rfl, rfl, hi, HS2, hx2⟩ := hrel
          have hx3 : Ext w wr := hx2
          have hS2 : S2.size ≤ 2000 := by
            rw [HS2.out, tx_size]
            have a1 := partB_len HOK.out k
            have a2 := capK_len HCAP.out i
            have a3 := HHL.out
            simp only [List.length_append, List.length_cons]; omega
          obtain ⟨c0, _, c1, _, cv2, c2', hu2⟩ := EQueue.mono w wr fb _ x hx2 (HFE.out k x HXK.out)
          obtain ⟨ra, rc, hcv2, _, _, _, hrE⟩ := svAt hu2
          by_cases hil : i < m
          · have hil' : (i : Int) < (m : Int) := by omega
            obtain ⟨y, hyi⟩ := getA (f := x.Cap) (k := i) (by rw [HM.out]; exact hil)
            obtain ⟨rb, ro, rfl, hrb, hre⟩ := hrE (by rw [HM.out]; omega)
            obtain ⟨e0, e1, _⟩ := hre i y hyi
            have hym := cap_mem HCAP.out y (List.mem_of_getElem? hyi)
            obtain ⟨ya, hya⟩ : ∃ ya : Nat, y.At = ya := ⟨y.At.toNat, by omega⟩
            obtain ⟨yn, hyn⟩ : ∃ yn : Nat, y.N = yn := ⟨y.N.toNat, by omega⟩
            rw [HM.out] at hcv2
            subst hcv2
            have HY := hid (show capK x.Cap (i + 1) = capK x.Cap i ++ (32 :: (dig ya ++ 61 :: dig yn)) from by rw [capK_step hyi]; unfold runB; rw [hya, hyn]; rfl)
            have e0' : wr.cell? ⟨rb, ro + i * 2, none⟩ = some (.int .i64 ya) := by rw [← hya]; exact e0
            have e1' : wr.cell? ⟨rb, ro + i * 2 + 1, none⟩ = some (.int .i64 yn) := by rw [← hyn]; exact e1
            have la : ya < 100 := by omega
            have ln : yn < 100 := by omega
            have zc2 := fun p : Later wr => p.cell c2'
            have z0 := fun p : Later wr => p.cell e0'
            have z1 := fun p : Later wr => p.cell e1'
            have M1 := hid (fun p : Later wr => later_of p (v := .string (tx (dig ya))) (Digits_any ya la p.v))
            have M2 := hid (fun p : Later wr => later_of p (v := .string (tx (dig yn))) (Digits_any yn ln p.v))
            have s1 : (tx (dig ya)).size ≤ 2 := by rw [tx_size]; exact (dig_len ya la).2
            have s2 : (tx (dig yn)).size ≤ 2 := by rw [tx_size]; exact (dig_len yn ln).2
            have v1 := deF (show ¬ (i : Int) < 0 by omega)
            have v2 := deF (show ¬ (m : Int) ≤ (i : Int) by omega)
            have v3 := deF (show ¬ m ≤ i by omega)
            clear hre hrE hyi e0 e1 e0' e1' hym hya hyn c0 c1 hu2
            obtain ⟨da, hda⟩ : ∃ da, tx (dig ya) = da := ⟨_, rfl⟩
            obtain ⟨dn, hdn⟩ : ∃ dn, tx (dig yn) = dn := ⟨_, rfl⟩
            rw [hda] at M1 s1
            rw [hdn] at M2 s2
            have HDA := hid hda
            have HDN := hid hdn
            clear hda hdn
            have HIL := hid hil
            go_wp2_with fail
            refine region_later (by kernel_rfl) (by kernel_rfl) ?_
            repeat (go_big_quiet_step (first | with_reducible exact M1.out _ | with_reducible exact M2.out _))
            refine wpQuiet_nil ?_
            rintro w' ⟨p, rfl⟩
            have HX := hid (hx3.tr p.h)
            clear M1 M2 zc2 z0 z1
            generalize p.v = W at *
            go_wp2_with fail
            go_roundw
            case rel =>
              refine ⟨i + 1, _, by go_num, rfl, HIL.out, hid ?_, HX.out⟩
              rw [HS2.out, HY.out, ← HDA.out, ← HDN.out]
              simp only [cTx, tx_app, List.append_assoc, List.cons_append, List.nil_append]
            case measure => have := HIL.out; simp [intOf]; omega
          · obtain rfl : i = m := by omega
            have hil' : ¬ (i : Int) < (i : Int) := by omega
            rw [HM.out] at hcv2
            subst hcv2
            clear hrE hu2 c0 c1
            go_wp2_with fail
            go_roundw
            case rel =>
              refine ⟨k + 1, _, by go_num, rfl, HLT.out, hid ?_, hx3⟩
              rw [partB_step HXK.out, HS2.out, show capK x.Cap i = capB x.Cap from by unfold capK; rw [List.take_of_length_le (by rw [HM.out]; exact Nat.le_refl _)]]
              simp only [cTx, tx_app, List.append_assoc, List.cons_append, List.nil_append]
            case measure => have := HLT.out; simp [intOf]; omega
    · obtain rfl : k = n := by omega
      have hlt' : ¬ (k : Int) < (k : Int) := by omega
      go_wp2_with fail
      go_ret
      refine ⟨?_, hx⟩
      rw [HS.out, partB_all (by rw [Hn.out]; exact Nat.le_refl _)]; rfl
end Go.Proofs.YtdcndkojmflhnaaDoor
