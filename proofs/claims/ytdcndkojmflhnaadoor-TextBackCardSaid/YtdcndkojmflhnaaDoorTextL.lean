/- What must be in any case; the laws of text. -/
import Derived.Test.YtdcndkojmflhnaaDoorTextK
set_option linter.unusedVariables false
set_option linter.unusedSimpArgs false
set_option maxRecDepth 100000
set_option maxHeartbeats 8000000
namespace Go.Proofs.YtdcndkojmflhnaaDoor
open Go.RowKit
theorem bad_text : (readR [97, 108, 108, 58, 32, 48, 61, 49]).2 = 1 := by unfold readR; decide +kernel
theorem hD (l : By) (h : ∀ b ∈ l, b.toNat < 128) : Lib.fieldsD l = Lib.fields l := Lib.fieldsD_ascii l h
theorem field_bytes : treeB (fieldL 10 0 6) = [97, 108, 108, 58, 32, 48, 61, 49, 48, 10, 110, 111, 114, 116, 104, 32, 60, 32, 97, 108, 108, 58, 32, 48, 61, 56, 32, 50, 48, 61, 52, 10, 115, 111, 117, 116, 104, 32, 60, 32, 97, 108, 108, 58, 32, 48, 61, 54, 10, 98, 97, 114, 110, 32, 60, 32, 110, 111, 114, 116, 104, 58, 32, 48, 61, 56, 10] := by decide +kernel
theorem show_field : showR (fieldL 10 0 6) = (treeB (fieldL 10 0 6), 0) := by unfold showR; rw [if_pos fieldC]
theorem read_field : readR (treeB (fieldL 10 0 6)) = (fieldL 10 0 6, 0) := read_show hD fieldC
theorem begun_any (w : World) (hw : TextW w) : Calls Tryd.prog 9 #[] w fun e w' => e = .returned (.bool true) ∧ Ext w w' := by
  have F := hid (fun W : World => field_any W)
  have SH := hid (fun (W : World) (v : Value) (h : QueuesV W v (fieldL 10 0 6)) => Show_any W v _ h)
  have RD := hid (fun (W : World) (h : Ext w W) => Read_any W (hw.ext h) (treeB (fieldL 10 0 6)) (by have := tree_len (checkT_ok fieldC); omega))
  have RB := hid (fun (W : World) (h : Ext w W) => show Calls Tryd.prog 8 #[.string ⟨#[97, 108, 108, 58, 32, 48, 61, 49]⟩] W (RetRead W (readR [97, 108, 108, 58, 32, 48, 61, 49])) from Read_any W (hw.ext h) [97, 108, 108, 58, 32, 48, 61, 49] (by decide))
  rw [show_field] at SH
  rw [read_field] at RD
  have HBT := hid bad_text
  generalize readR [97, 108, 108, 58, 32, 48, 61, 49] = bad at *
  have i1 : I64 10 := I64.of (by omega) (by omega)
  have i2 : I64 0 := I64.of (by omega) (by omega)
  have i3 : I64 6 := I64.of (by omega) (by omega)
  clear hw
  go_enter Tryd.func9, Tryd.ntmps9
  go_wp2_with fail
  refine (F.out _).mono ?_
  rintro e w1 ⟨rfl, hf, hx1⟩
  have HV := hid (hf.v i1 i2 i3)
  have HX1 := hid hx1
  clear hf hx1 i1 i2 i3
  go_wp2_with fail
  refine (SH.out _ _ HV.out).mono ?_
  rintro e w2 ⟨rfl, hx2⟩
  have HX2 := hid (HX1.out.tr hx2)
  clear hx2
  go_wp2_with fail
  refine (RD.out _ HX2.out).mono ?_
  rintro e w3 ⟨v, rfl, hv, hx3⟩
  have HX3 := hid (HX2.out.tr hx3)
  have HVR := hid hv
  obtain ⟨va, vc, rfl, _⟩ := hv.form
  clear hv hx3
  go_wp2_with fail
  refine (RB.out _ HX3.out).mono ?_
  rintro e w4 ⟨v4, rfl, hv4, hx4⟩
  rw [HBT.out]
  have HX4 := hid (HX3.out.tr hx4)
  have HV4 := hid ((HVR.out : QueuesV w3 _ _).mono hx4)
  obtain ⟨va4, vc4, rfl, _⟩ := hv4.form
  clear hv4 hx4
  go_wp2_with fail
  refine (F.out _).mono ?_
  rintro e w5 ⟨rfl, hf5, hx5⟩
  have HV5 := hid (hf5.v (I64.of (by omega) (by omega)) (I64.of (by omega) (by omega)) (I64.of (by omega) (by omega)))
  have HS := hid (sameTrees_yes w5 _ _ _ (HV4.out.mono hx5) HV5.out)
  have HX5 := hid (HX4.out.tr hx5)
  clear hf5 hx5
  go_wp2_with fail
  refine HS.out.mono ?_
  rintro e w6 ⟨rfl, hx6⟩
  have HX6 := hid (HX5.out.tr hx6)
  clear hx6
  go_wp2_with fail
  go_ret
  refine ⟨?_, HX6.out⟩
  rw [tx_list, field_bytes]; rfl
theorem textShows_any (w : World) (hw : TextW w) (v : Value) (l : List Queue) (hv : QueuesV w v l) (s : By) (hs : s.length ≤ 9223372036854775807) :
    Calls Tryd.prog 3 #[v, .string (tx s)] w fun e w' => e = .returned (.bool true) ∧ Ext w w' := by
  have SH := hid (Show_any w v l hv)
  have CK := hid (fun (W : World) (h : Ext w W) => CheckTree_any W v l (hv.mono h))
  have TT := hid (fun (W : World) (h : Ext w W) (ok : TreeOk l) => TreeText_any W v l (hv.mono h) ok)
  have RD := hid (fun (W : World) (h : Ext w W) => Read_any W (hw.ext h) s hs)
  have BG := hid (fun (W : World) (h : Ext w W) => begun_any W (hw.ext h))
  have FR := hid (fun (W : World) (h : s.length ≤ 4096) => TreeFrom_any W s h)
  have hz := tx_size s
  obtain ⟨va, vc, rfl, _⟩ := hv.form
  clear hv hw
  generalize l.length = n at *
  by_cases hlen : 4096 < s.length
  · have HRM := hid (show readR s = ([], 2) from by unfold readR; rw [if_pos hlen])
    have hb : (4096 : Int) < (s.length : Int) := by omega
    rw [HRM.out] at RD
    clear FR
    by_cases hc : checkT l = 0
    · have hsr : showR l = (treeB l, 0) := by unfold showR; rw [if_pos hc]
      have hok := checkT_ok hc
      rw [hsr] at SH
      rw [hc] at CK
      have TT2 := hid (fun (W : World) (h : Ext w W) => TT.out W h hok)
      have SH := hid (show Calls Tryd.prog 5 #[.slice va n vc] w (fun e w' => e = .returned (.tuple #[.string (tx (treeB l)), .int .i64 0]) ∧ Ext w w') from SH.out)
      clear TT hsr hc hok
      have hq := nameT (x := tx (treeB l)) (y := tx (treeB l)) rfl
      generalize tx (treeB l) = T at *
      go_enter Tryd.func3, Tryd.ntmps3
      go_wp2_with fail
      refine SH.out.mono ?_
      rintro e w1 ⟨rfl, hx1⟩
      have HX1 := hid hx1
      clear hx1
      go_wp2_with fail
      refine (CK.out _ HX1.out).mono ?_
      rintro e w2 ⟨rfl, hx2⟩
      have HX2 := hid (HX1.out.tr hx2)
      clear hx2
      go_wp2_with fail
      refine (TT2.out _ HX2.out).mono ?_
      rintro e w2b ⟨rfl, hx2b⟩
      have HX2 := hid (HX2.out.tr hx2b)
      clear hx2b
      go_wp2_with fail
      refine (RD.out _ HX2.out).mono ?_
      rintro e w3 ⟨x, rfl, hxv, hx3⟩
      have HX3 := hid (HX2.out.tr hx3)
      have HXV := hid hxv
      obtain ⟨xa, xc, rfl, _⟩ := hxv.form
      clear hxv hx3
      go_wp2_with fail
      refine (BG.out _ HX3.out).mono ?_
      rintro e w4 ⟨rfl, hx4⟩
      have HX4 := hid (HX3.out.tr hx4)
      clear hx4
      go_wp2_with fail
      go_ret
      exact ⟨rfl, HX4.out⟩
    · have hsr : showR l = ([], checkT l) := by unfold showR; rw [if_neg hc]
      rw [hsr] at SH
      have SH := hid (show Calls Tryd.prog 5 #[.slice va n vc] w (fun e w' => e = .returned (.tuple #[.string (tx []), .int .i64 (checkT l)]) ∧ Ext w w') from SH.out)
      have hq : (tx []).toList = [] := tx_list []
      generalize tx [] = EM at *
      clear TT hsr
      generalize checkT l = ec at *
      go_enter Tryd.func3, Tryd.ntmps3
      go_wp2_with fail
      refine SH.out.mono ?_
      rintro e w1 ⟨rfl, hx1⟩
      have HX1 := hid hx1
      clear hx1
      go_wp2_with fail
      refine (CK.out _ HX1.out).mono ?_
      rintro e w2 ⟨rfl, hx2⟩
      have HX2 := hid (HX1.out.tr hx2)
      clear hx2
      go_wp2_with fail
      refine (RD.out _ HX2.out).mono ?_
      rintro e w3 ⟨x, rfl, hxv, hx3⟩
      have HX3 := hid (HX2.out.tr hx3)
      have HXV := hid hxv
      obtain ⟨xa, xc, rfl, _⟩ := hxv.form
      clear hxv hx3
      go_wp2_with fail
      refine (BG.out _ HX3.out).mono ?_
      rintro e w4 ⟨rfl, hx4⟩
      have HX4 := hid (HX3.out.tr hx4)
      clear hx4
      go_wp2_with fail
      go_ret
      exact ⟨rfl, HX4.out⟩
  · have hlen : s.length ≤ 4096 := by omega
    have hb : ¬ (4096 : Int) < (s.length : Int) := by omega
    obtain ⟨hr1, hr2⟩ := read_from hD hlen
    generalize hR : readR s = R at *
    generalize hF : fromR s = F at *
    obtain ⟨R1, R2⟩ := R
    obtain ⟨F1, F2⟩ := F
    clear hR hF
    simp only at hr1 hr2
    subst hr1
    cases F2 with
    | true =>
      have hr0 : R2 = 0 := by simpa using hr2
      subst hr0
      clear hr2
      by_cases hc : checkT l = 0
      · have hsr : showR l = (treeB l, 0) := by unfold showR; rw [if_pos hc]
        have hok := checkT_ok hc
        rw [hsr] at SH
        rw [hc] at CK
        have TT2 := hid (fun (W : World) (h : Ext w W) => TT.out W h hok)
        have SH := hid (show Calls Tryd.prog 5 #[.slice va n vc] w (fun e w' => e = .returned (.tuple #[.string (tx (treeB l)), .int .i64 0]) ∧ Ext w w') from SH.out)
        clear TT hsr hc hok
        have hq := nameT (x := tx (treeB l)) (y := tx (treeB l)) rfl
        generalize tx (treeB l) = T at *
        go_enter Tryd.func3, Tryd.ntmps3
        go_wp2_with fail
        refine SH.out.mono ?_
        rintro e w1 ⟨rfl, hx1⟩
        have HX1 := hid hx1
        clear hx1
        go_wp2_with fail
        refine (CK.out _ HX1.out).mono ?_
        rintro e w2 ⟨rfl, hx2⟩
        have HX2 := hid (HX1.out.tr hx2)
        clear hx2
        go_wp2_with fail
        refine (TT2.out _ HX2.out).mono ?_
        rintro e w2b ⟨rfl, hx2b⟩
        have HX2 := hid (HX2.out.tr hx2b)
        clear hx2b
        go_wp2_with fail
        refine (RD.out _ HX2.out).mono ?_
        rintro e w3 ⟨x, rfl, hxv, hx3⟩
        have HX3 := hid (HX2.out.tr hx3)
        have HXV := hid hxv
        obtain ⟨xa, xc, rfl, _⟩ := hxv.form
        clear hxv hx3
        go_wp2_with fail
        refine (FR.out _ hlen).mono ?_
        rintro e w4 ⟨y, rfl, hyv, hx4⟩
        have HX4 := hid (HX3.out.tr hx4)
        have HXV4 := hid ((HXV.out : QueuesV w3 _ _).mono hx4)
        have HYV := hid hyv
        obtain ⟨ya, yc, rfl, _⟩ := hyv.form
        clear hyv hx4
        go_wp2_with fail
        refine (BG.out _ HX4.out).mono ?_
        rintro e w5 ⟨rfl, hx5⟩
        have HX5 := hid (HX4.out.tr hx5)
        have HSS := hid (sameTrees_yes w5 _ _ R1 ((HXV4.out : QueuesV w4 _ _).mono hx5) ((HYV.out : QueuesV w4 _ _).mono hx5))
        clear hx5
        go_wp2_with fail
        refine HSS.out.mono ?_
        rintro e w6 ⟨rfl, hx6⟩
        have HX6 := hid (HX5.out.tr hx6)
        clear hx6
        go_wp2_with fail
        go_ret
        exact ⟨rfl, HX6.out⟩
      · have hsr : showR l = ([], checkT l) := by unfold showR; rw [if_neg hc]
        rw [hsr] at SH
        have SH := hid (show Calls Tryd.prog 5 #[.slice va n vc] w (fun e w' => e = .returned (.tuple #[.string (tx []), .int .i64 (checkT l)]) ∧ Ext w w') from SH.out)
        have hq : (tx []).toList = [] := tx_list []
        generalize tx [] = EM at *
        clear TT hsr
        generalize checkT l = ec at *
        go_enter Tryd.func3, Tryd.ntmps3
        go_wp2_with fail
        refine SH.out.mono ?_
        rintro e w1 ⟨rfl, hx1⟩
        have HX1 := hid hx1
        clear hx1
        go_wp2_with fail
        refine (CK.out _ HX1.out).mono ?_
        rintro e w2 ⟨rfl, hx2⟩
        have HX2 := hid (HX1.out.tr hx2)
        clear hx2
        go_wp2_with fail
        refine (RD.out _ HX2.out).mono ?_
        rintro e w3 ⟨x, rfl, hxv, hx3⟩
        have HX3 := hid (HX2.out.tr hx3)
        have HXV := hid hxv
        obtain ⟨xa, xc, rfl, _⟩ := hxv.form
        clear hxv hx3
        go_wp2_with fail
        refine (FR.out _ hlen).mono ?_
        rintro e w4 ⟨y, rfl, hyv, hx4⟩
        have HX4 := hid (HX3.out.tr hx4)
        have HXV4 := hid ((HXV.out : QueuesV w3 _ _).mono hx4)
        have HYV := hid hyv
        obtain ⟨ya, yc, rfl, _⟩ := hyv.form
        clear hyv hx4
        go_wp2_with fail
        refine (BG.out _ HX4.out).mono ?_
        rintro e w5 ⟨rfl, hx5⟩
        have HX5 := hid (HX4.out.tr hx5)
        have HSS := hid (sameTrees_yes w5 _ _ R1 ((HXV4.out : QueuesV w4 _ _).mono hx5) ((HYV.out : QueuesV w4 _ _).mono hx5))
        clear hx5
        go_wp2_with fail
        refine HSS.out.mono ?_
        rintro e w6 ⟨rfl, hx6⟩
        have HX6 := hid (HX5.out.tr hx6)
        clear hx6
        go_wp2_with fail
        go_ret
        exact ⟨rfl, HX6.out⟩
    | false =>
      have hr0 : R2 = 1 := by simpa using hr2
      subst hr0
      clear hr2
      by_cases hc : checkT l = 0
      · have hsr : showR l = (treeB l, 0) := by unfold showR; rw [if_pos hc]
        have hok := checkT_ok hc
        rw [hsr] at SH
        rw [hc] at CK
        have TT2 := hid (fun (W : World) (h : Ext w W) => TT.out W h hok)
        have SH := hid (show Calls Tryd.prog 5 #[.slice va n vc] w (fun e w' => e = .returned (.tuple #[.string (tx (treeB l)), .int .i64 0]) ∧ Ext w w') from SH.out)
        clear TT hsr hc hok
        have hq := nameT (x := tx (treeB l)) (y := tx (treeB l)) rfl
        generalize tx (treeB l) = T at *
        go_enter Tryd.func3, Tryd.ntmps3
        go_wp2_with fail
        refine SH.out.mono ?_
        rintro e w1 ⟨rfl, hx1⟩
        have HX1 := hid hx1
        clear hx1
        go_wp2_with fail
        refine (CK.out _ HX1.out).mono ?_
        rintro e w2 ⟨rfl, hx2⟩
        have HX2 := hid (HX1.out.tr hx2)
        clear hx2
        go_wp2_with fail
        refine (TT2.out _ HX2.out).mono ?_
        rintro e w2b ⟨rfl, hx2b⟩
        have HX2 := hid (HX2.out.tr hx2b)
        clear hx2b
        go_wp2_with fail
        refine (RD.out _ HX2.out).mono ?_
        rintro e w3 ⟨x, rfl, hxv, hx3⟩
        have HX3 := hid (HX2.out.tr hx3)
        have HXV := hid hxv
        obtain ⟨xa, xc, rfl, _⟩ := hxv.form
        clear hxv hx3
        go_wp2_with fail
        refine (FR.out _ hlen).mono ?_
        rintro e w4 ⟨y, rfl, hyv, hx4⟩
        have HX4 := hid (HX3.out.tr hx4)
        have HXV4 := hid ((HXV.out : QueuesV w3 _ _).mono hx4)
        have HYV := hid hyv
        obtain ⟨ya, yc, rfl, _⟩ := hyv.form
        clear hyv hx4
        go_wp2_with fail
        refine (BG.out _ HX4.out).mono ?_
        rintro e w5 ⟨rfl, hx5⟩
        have HX5 := hid (HX4.out.tr hx5)
        have HSS := hid (sameTrees_yes w5 _ _ R1 ((HXV4.out : QueuesV w4 _ _).mono hx5) ((HYV.out : QueuesV w4 _ _).mono hx5))
        clear hx5
        go_wp2_with fail
        refine HSS.out.mono ?_
        rintro e w6 ⟨rfl, hx6⟩
        have HX6 := hid (HX5.out.tr hx6)
        clear hx6
        go_wp2_with fail
        go_ret
        exact ⟨rfl, HX6.out⟩
      · have hsr : showR l = ([], checkT l) := by unfold showR; rw [if_neg hc]
        rw [hsr] at SH
        have SH := hid (show Calls Tryd.prog 5 #[.slice va n vc] w (fun e w' => e = .returned (.tuple #[.string (tx []), .int .i64 (checkT l)]) ∧ Ext w w') from SH.out)
        have hq : (tx []).toList = [] := tx_list []
        generalize tx [] = EM at *
        clear TT hsr
        generalize checkT l = ec at *
        go_enter Tryd.func3, Tryd.ntmps3
        go_wp2_with fail
        refine SH.out.mono ?_
        rintro e w1 ⟨rfl, hx1⟩
        have HX1 := hid hx1
        clear hx1
        go_wp2_with fail
        refine (CK.out _ HX1.out).mono ?_
        rintro e w2 ⟨rfl, hx2⟩
        have HX2 := hid (HX1.out.tr hx2)
        clear hx2
        go_wp2_with fail
        refine (RD.out _ HX2.out).mono ?_
        rintro e w3 ⟨x, rfl, hxv, hx3⟩
        have HX3 := hid (HX2.out.tr hx3)
        have HXV := hid hxv
        obtain ⟨xa, xc, rfl, _⟩ := hxv.form
        clear hxv hx3
        go_wp2_with fail
        refine (FR.out _ hlen).mono ?_
        rintro e w4 ⟨y, rfl, hyv, hx4⟩
        have HX4 := hid (HX3.out.tr hx4)
        have HXV4 := hid ((HXV.out : QueuesV w3 _ _).mono hx4)
        have HYV := hid hyv
        obtain ⟨ya, yc, rfl, _⟩ := hyv.form
        clear hyv hx4
        go_wp2_with fail
        refine (BG.out _ HX4.out).mono ?_
        rintro e w5 ⟨rfl, hx5⟩
        have HX5 := hid (HX4.out.tr hx5)
        have HSS := hid (sameTrees_yes w5 _ _ R1 ((HXV4.out : QueuesV w4 _ _).mono hx5) ((HYV.out : QueuesV w4 _ _).mono hx5))
        clear hx5
        go_wp2_with fail
        refine HSS.out.mono ?_
        rintro e w6 ⟨rfl, hx6⟩
        have HX6 := hid (HX5.out.tr hx6)
        clear hx6
        go_wp2_with fail
        go_ret
        exact ⟨rfl, HX6.out⟩

theorem textBack_any (w : World) (hw : TextW w) (v : Value) (l : List Queue) (hv : QueuesV w v l) (s : By) (hs : s.length ≤ 9223372036854775807) :
    Calls Tryd.prog 4 #[v, .string (tx s)] w fun e w' => e = .returned (.bool true) ∧ Ext w w' := by
  have SH := hid (Show_any w v l hv)
  have RT := hid (fun (W : World) (h : Ext w W) (t : By) (ht : t.length ≤ 4096) => Read_any W (hw.ext h) t (by omega))
  have RD := hid (fun (W : World) (h : Ext w W) => Read_any W (hw.ext h) s hs)
  have BG := hid (fun (W : World) (h : Ext w W) => begun_any W (hw.ext h))
  have S2 := hid (fun (W : World) (u : Value) (q : List Queue) (h : QueuesV W u q) => Show_any W u q h)
  have HV := hid hv
  have hz := tx_size s
  obtain ⟨va, vc, rfl, _⟩ := hv.form
  have HBK := hid (fun h => show_read (s := s) h)
  clear hv hw
  generalize hn : l.length = n at *
  have HN := hid hn
  clear hn
  generalize hR : readR s = R at *
  clear hR
  obtain ⟨R1, R2⟩ := R
  simp only at HBK
  by_cases hg : R2 = 0
  · subst hg
    have HSW := hid (show showR R1 = (s, 0) from by
      obtain ⟨h1, h2⟩ := HBK.out rfl
      unfold showR; rw [if_pos h1, h2])
    clear HBK
    by_cases hc : checkT l = 0
    · have hsr : showR l = (treeB l, 0) := by unfold showR; rw [if_pos hc]
      have hok := checkT_ok hc
      rw [hsr] at SH
      have SH := hid (show Calls Tryd.prog 5 #[.slice va n vc] w (fun e w' => e = .returned (.tuple #[.string (tx (treeB l)), .int .i64 0]) ∧ Ext w w') from SH.out)
      have htl := tree_len hok
      have RT2 := hid (fun (W : World) (h : Ext w W) => show Calls Tryd.prog 8 #[.string (tx (treeB l))] W (RetRead W (l, 0)) from by rw [← read_show hD hc]; exact RT.out W h _ (by omega))
      clear hsr hc hok RT htl
      generalize tx (treeB l) = T at *
      go_enter Tryd.func4, Tryd.ntmps4
      go_wp2_with fail
      refine SH.out.mono ?_
      rintro e w1 ⟨rfl, hx1⟩
      have HX1 := hid hx1
      clear hx1
      go_wp2_with fail
      refine (RT2.out _ HX1.out).mono ?_
      rintro e w2 ⟨x, rfl, hxv, hx2⟩
      have HX2 := hid (HX1.out.tr hx2)
      have HXV := hid hxv
      obtain ⟨xa, xc, rfl, _⟩ := hxv.form
      have HSS := hid (sameTrees_yes w2 _ _ l HXV.out (HV.out.mono HX2.out))
      rw [HN.out] at HSS
      simp only [HN.out]
      clear hxv hx2
      go_wp2_with fail
      refine HSS.out.mono ?_
      rintro e w3 ⟨rfl, hx3⟩
      have HX1 := hid (HX2.out.tr hx3)
      clear hx3
      go_wp2_with fail
      refine (RD.out _ HX1.out).mono ?_
      rintro e w4 ⟨y, rfl, hyv, hx4⟩
      have HX4 := hid (HX1.out.tr hx4)
      have HYV := hid hyv
      obtain ⟨ya, yc, rfl, _⟩ := hyv.form
      clear hyv hx4
      have SY := hid (show Calls Tryd.prog 5 #[.slice ya R1.length yc] w4 (fun e w' => e = .returned (.tuple #[.string (tx s), .int .i64 0]) ∧ Ext w4 w') from by
        have := S2.out w4 _ R1 HYV.out
        rw [HSW.out] at this
        exact this)
      have hq := nameT (x := tx s) (y := tx s) rfl
      generalize R1.length = rn at *
      generalize tx s = TS at *
      go_wp2_with fail
      refine SY.out.mono ?_
      rintro e w5 ⟨rfl, hx5⟩
      have HX5 := hid (HX4.out.tr hx5)
      clear hx5
      go_wp2_with fail
      refine (BG.out _ HX5.out).mono ?_
      rintro e w6 ⟨rfl, hx6⟩
      have HX6 := hid (HX5.out.tr hx6)
      clear hx6
      go_wp2_with fail
      go_ret
      exact ⟨rfl, HX6.out⟩
    · have hsr : showR l = ([], checkT l) := by unfold showR; rw [if_neg hc]
      rw [hsr] at SH
      have SH := hid (show Calls Tryd.prog 5 #[.slice va n vc] w (fun e w' => e = .returned (.tuple #[.string (tx []), .int .i64 (checkT l)]) ∧ Ext w w') from SH.out)
      clear hsr RT
      generalize checkT l = ec at *
      go_enter Tryd.func4, Tryd.ntmps4
      go_wp2_with fail
      refine SH.out.mono ?_
      rintro e w1 ⟨rfl, hx1⟩
      have HX1 := hid hx1
      clear hx1
      go_wp2_with fail
      refine (RD.out _ HX1.out).mono ?_
      rintro e w4 ⟨y, rfl, hyv, hx4⟩
      have HX4 := hid (HX1.out.tr hx4)
      have HYV := hid hyv
      obtain ⟨ya, yc, rfl, _⟩ := hyv.form
      clear hyv hx4
      have SY := hid (show Calls Tryd.prog 5 #[.slice ya R1.length yc] w4 (fun e w' => e = .returned (.tuple #[.string (tx s), .int .i64 0]) ∧ Ext w4 w') from by
        have := S2.out w4 _ R1 HYV.out
        rw [HSW.out] at this
        exact this)
      have hq := nameT (x := tx s) (y := tx s) rfl
      generalize R1.length = rn at *
      generalize tx s = TS at *
      go_wp2_with fail
      refine SY.out.mono ?_
      rintro e w5 ⟨rfl, hx5⟩
      have HX5 := hid (HX4.out.tr hx5)
      clear hx5
      go_wp2_with fail
      refine (BG.out _ HX5.out).mono ?_
      rintro e w6 ⟨rfl, hx6⟩
      have HX6 := hid (HX5.out.tr hx6)
      clear hx6
      go_wp2_with fail
      go_ret
      exact ⟨rfl, HX6.out⟩
  · clear HBK S2
    by_cases hc : checkT l = 0
    · have hsr : showR l = (treeB l, 0) := by unfold showR; rw [if_pos hc]
      have hok := checkT_ok hc
      rw [hsr] at SH
      have SH := hid (show Calls Tryd.prog 5 #[.slice va n vc] w (fun e w' => e = .returned (.tuple #[.string (tx (treeB l)), .int .i64 0]) ∧ Ext w w') from SH.out)
      have htl := tree_len hok
      have RT2 := hid (fun (W : World) (h : Ext w W) => show Calls Tryd.prog 8 #[.string (tx (treeB l))] W (RetRead W (l, 0)) from by rw [← read_show hD hc]; exact RT.out W h _ (by omega))
      clear hsr hc hok RT htl
      generalize tx (treeB l) = T at *
      go_enter Tryd.func4, Tryd.ntmps4
      go_wp2_with fail
      refine SH.out.mono ?_
      rintro e w1 ⟨rfl, hx1⟩
      have HX1 := hid hx1
      clear hx1
      go_wp2_with fail
      refine (RT2.out _ HX1.out).mono ?_
      rintro e w2 ⟨x, rfl, hxv, hx2⟩
      have HX2 := hid (HX1.out.tr hx2)
      have HXV := hid hxv
      obtain ⟨xa, xc, rfl, _⟩ := hxv.form
      have HSS := hid (sameTrees_yes w2 _ _ l HXV.out (HV.out.mono HX2.out))
      rw [HN.out] at HSS
      simp only [HN.out]
      clear hxv hx2
      go_wp2_with fail
      refine HSS.out.mono ?_
      rintro e w3 ⟨rfl, hx3⟩
      have HX1 := hid (HX2.out.tr hx3)
      clear hx3
      go_wp2_with fail
      refine (RD.out _ HX1.out).mono ?_
      rintro e w4 ⟨y, rfl, hyv, hx4⟩
      have HX4 := hid (HX1.out.tr hx4)
      have HYV := hid hyv
      obtain ⟨ya, yc, rfl, _⟩ := hyv.form
      clear hyv hx4
      generalize R1.length = rn at *
      go_wp2_with fail
      refine (BG.out _ HX4.out).mono ?_
      rintro e w6 ⟨rfl, hx6⟩
      have HX6 := hid (HX4.out.tr hx6)
      clear hx6
      go_wp2_with fail
      go_ret
      exact ⟨rfl, HX6.out⟩
    · have hsr : showR l = ([], checkT l) := by unfold showR; rw [if_neg hc]
      rw [hsr] at SH
      have SH := hid (show Calls Tryd.prog 5 #[.slice va n vc] w (fun e w' => e = .returned (.tuple #[.string (tx []), .int .i64 (checkT l)]) ∧ Ext w w') from SH.out)
      clear hsr RT
      generalize checkT l = ec at *
      go_enter Tryd.func4, Tryd.ntmps4
      go_wp2_with fail
      refine SH.out.mono ?_
      rintro e w1 ⟨rfl, hx1⟩
      have HX1 := hid hx1
      clear hx1
      go_wp2_with fail
      refine (RD.out _ HX1.out).mono ?_
      rintro e w4 ⟨y, rfl, hyv, hx4⟩
      have HX4 := hid (HX1.out.tr hx4)
      have HYV := hid hyv
      obtain ⟨ya, yc, rfl, _⟩ := hyv.form
      clear hyv hx4
      generalize R1.length = rn at *
      go_wp2_with fail
      refine (BG.out _ HX4.out).mono ?_
      rintro e w6 ⟨rfl, hx6⟩
      have HX6 := hid (HX4.out.tr hx6)
      clear hx6
      go_wp2_with fail
      go_ret
      exact ⟨rfl, HX6.out⟩
end Go.Proofs.YtdcndkojmflhnaaDoor
