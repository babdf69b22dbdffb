/- What a line that is read asks of the library; must, num. -/
import Derived.Test.YtdcndkojmflhnaaDoorTextF
set_option linter.unusedVariables false
set_option linter.unusedSimpArgs false
set_option maxRecDepth 100000
set_option maxHeartbeats 8000000
namespace Go.Proofs.YtdcndkojmflhnaaDoor
open Go.RowKit
theorem var_block {w : World} {n : String} {g : Nat} {cs : Array Value} (hg : Tryd.prog.globalNamed n = some g) (h : w.var? Tryd.prog n = some cs) : g < w.heap.size := by
  unfold World.var? at h
  rw [hg] at h
  simp only [Option.bind_some] at h
  cases hb : w.heap[g]? with
  | none => rw [hb] at h; cases h
  | some o => exact (Array.getElem?_eq_some_iff.1 hb).1
theorem var_ext {w w' : World} {n : String} {g : Nat} {cs : Array Value} (hg : Tryd.prog.globalNamed n = some g) (h : w.var? Tryd.prog n = some cs) (hx : Ext w w') : w'.var? Tryd.prog n = some cs := by
  have hb := hx.block g (var_block hg h)
  unfold World.var? at h ⊢
  rw [hg] at h ⊢
  simp only [Option.bind_some, hb] at h ⊢
  exact h
theorem space_at : Tryd.prog.globalNamed "strings.asciiSpace" = some 0 := by kernel_rfl
/-- what lies in the package's variables -/
structure TextW (w : World) : Prop where
  max : ∃ m, w.cell? ⟨3, 0, none⟩ = some (.int .i64 m)
  sp : Lib.TabIs Tryd.prog w "strings.asciiSpace" .u8 Lib.asciiSpaceTab
  wh : Lib.WhiteTab 1 w
  syn : ∃ te pe, w.cell? ⟨4, 0, none⟩ = some (.iface te pe)
  rng : ∃ te pe, w.cell? ⟨5, 0, none⟩ = some (.iface te pe)
  big : 6 ≤ w.heap.size
theorem TextW.ext {w w' : World} (h : TextW w) (hx : Ext w w') : TextW w' where
  max := h.max.elim fun m hm => ⟨m, hx.ce' hm⟩
  sp := var_ext space_at h.sp hx
  wh := WhiteTab_below h.wh hx
  syn := h.syn.elim fun a h => h.elim fun b h => ⟨a, b, hx.ce' h⟩
  rng := h.rng.elim fun a h => h.elim fun b h => ⟨a, b, hx.ce' h⟩
  big := Nat.le_trans h.big hx.size
def brokenP : List PanicEntry := [{ v := .iface 75 (.agg #[]), recovered := false }]
theorem must_yes (w : World) : Calls Tryd.prog 25 #[.bool true] w fun e w' => e = .returned (.tuple #[]) ∧ w' = w := by
  go_enter Tryd.func25, Tryd.ntmps25
  go_wp2_with fail
  go_end0
  exact ⟨rfl, rfl⟩
theorem must_no (w : World) : Calls Tryd.prog 25 #[.bool false] w fun e w' => e = .panicked brokenP ∧ w' = w := by
  go_enter Tryd.func25, Tryd.ntmps25
  go_wp2_with fail
  exact ⟨rfl, rfl, rfl⟩
theorem must_any (b : Bool) (w : World) : Calls Tryd.prog 25 #[.bool b] w fun e w' => (b = true ∧ e = .returned (.tuple #[]) ∨ b = false ∧ e = .panicked brokenP) ∧ w' = w := by
  cases b with
  | true => exact (must_yes w).mono fun e w' h => ⟨.inl ⟨rfl, h.1⟩, h.2⟩
  | false => exact (must_no w).mono fun e w' h => ⟨.inr ⟨rfl, h.1⟩, h.2⟩
/-! ### num -/
theorem bytesW_ext (w : World) (e : TypeId) (t : ByteArray) : Ext w (Lib.bytesWorld w e t) := by
  unfold Lib.bytesWorld
  exact Lib.below_freeze ((Ext.rf w).dr.al _) (Nat.le_refl _) _
theorem num_ok (w : World) (s : ByteArray) (hs : s.size ≤ 4096) (n : Int) (h : Lib.atoiAll (bs s) = .ok n) :
    Calls Tryd.prog 47 #[.string s] w fun e w' => e = .returned (.int .i64 n) ∧ Ext w w' := by
  have C := hid (Tryd.strconv_Atoi_ok s (by omega) n h w)
  clear h
  go_enter Tryd.func47, Tryd.ntmps47
  go_wp2_with fail
  refine C.out.mono ?_
  rintro e w1 ⟨rfl, hw⟩
  have HX := hid (show Ext w w1 from by rcases hw with rfl | ⟨t, rfl⟩; exact Ext.rf _; exact bytesW_ext _ _ _)
  clear hw C
  go_wp2_with fail
  refine (must_yes _).mono ?_
  rintro e w2 ⟨rfl, rfl⟩
  go_wp2_with fail
  go_ret
  exact ⟨rfl, HX.out⟩
theorem num_bad (w : World) (hw : TextW w) (s : ByteArray) (hs : s.size ≤ 4096) (h : ∀ n, Lib.atoiAll (bs s) ≠ .ok n) :
    Calls Tryd.prog 47 #[.string s] w fun e w' => e = .panicked brokenP ∧ Ext w w' := by
  have C := hid (show Calls Tryd.prog 61 #[.string s] w fun e w' => ∃ m N, e = .returned (.tuple #[.int .i64 m, .iface 125 (.pointer (some ⟨N, 0, none⟩))]) ∧ Ext w w' from by
    cases he : Lib.atoiAll (bs s) with
    | ok n => exact absurd he (h n)
    | _ =>
      first
      | (obtain ⟨te, pe, hc⟩ := hw.syn
         exact (Any.strconv_Atoi_syntax Tryd.laysC172 s (by omega) he _ w hc (.inr ⟨te, pe, rfl⟩)).mono fun e w' ⟨N, h1, _, _, h2⟩ => ⟨_, N, h1, h2⟩)
      | (obtain ⟨te, pe, hc⟩ := hw.rng
         exact (Any.strconv_Atoi_range Tryd.laysC172 s (by omega) he _ w hc (.inr ⟨te, pe, rfl⟩)).mono fun e w' ⟨N, h1, _, _, h2⟩ => ⟨_, N, h1, h2⟩))
  clear h hw
  go_enter Tryd.func47, Tryd.ntmps47
  go_wp2_with fail
  refine C.out.mono ?_
  rintro e w1 ⟨m, N, rfl, hx⟩
  have HX := hid hx
  clear hx C
  go_wp2_with fail
  refine (must_no _).mono ?_
  rintro e w2 ⟨rfl, rfl⟩
  exact ⟨rfl, rfl, HX.out⟩
/-- what num answers -/
def NumIs (w : World) (s : By) (e : Ending) (w' : World) : Prop := (match Lib.atoiAll s with | .ok n => e = .returned (.int .i64 n) | _ => e = .panicked brokenP) ∧ Ext w w'
theorem num_any (w : World) (hw : TextW w) (s : By) (hs : s.length ≤ 4096) :
    Calls Tryd.prog 47 #[.string (tx s)] w (NumIs w s) := by
  have hz : (tx s).size ≤ 4096 := by rw [tx_size]; exact hs
  cases h : Lib.atoiAll s with
  | ok n =>
    refine (num_ok w (tx s) hz n h).mono fun e w' hq => ⟨?_, hq.2⟩
    rw [h]; exact hq.1
  | _ =>
    refine (num_bad w hw (tx s) hz (fun n hn => by rw [bs_tx, h] at hn; cases hn)).mono fun e w' hq => ⟨?_, hq.2⟩
    rw [h]; exact hq.1
/-! ### the queue of a name -/
theorem findN_hit {l : List Queue} {s : By} {k : Nat} {x : Queue} (hx : l[k]? = some x) (he : bs x.Name = s) (hn : ∀ (j : Nat) (y : Queue), j < k → l[j]? = some y → bs y.Name ≠ s) : findN l s = k := by
  have hk := (List.getElem?_eq_some_iff.1 hx).1
  have e : l.findIdx? (fun q => bs q.Name == s) = some k := by
    rw [List.findIdx?_eq_some_iff_getElem]
    refine ⟨hk, ?_, fun j hj => ?_⟩
    · have := (List.getElem?_eq_some_iff.1 hx).2
      rw [this]; simp [he]
    · have := hn j _ hj (List.getElem?_eq_getElem (by omega))
      simpa using this
  unfold findN; rw [e]
theorem findN_miss {l : List Queue} {s : By} (hn : ∀ (j : Nat) (y : Queue), l[j]? = some y → bs y.Name ≠ s) : findN l s = -1 := by
  have e : l.findIdx? (fun q => bs q.Name == s) = none := by
    rw [List.findIdx?_eq_none_iff]
    intro x hx
    obtain ⟨j, hj⟩ := List.mem_iff_getElem?.1 hx
    simpa using hn j x hj
  unfold findN; rw [e]
theorem findN_range (l : List Queue) (s : By) : findN l s = -1 ∨ ∃ k : Nat, findN l s = k ∧ k < l.length := by
  unfold findN
  cases h : l.findIdx? (fun q => bs q.Name == s) with
  | none => exact .inl rfl
  | some i =>
    rw [List.findIdx?_eq_some_iff_getElem] at h
    exact .inr ⟨i, rfl, h.1⟩
theorem bs_inj {a b : ByteArray} (h : bs a = bs b) : a = b := by rw [← tx_bs a, h, tx_bs]
theorem cell_lt {w : World} {b o : Nat} {v : Value} (h : w.cell? ⟨b, o, none⟩ = some v) : b < w.heap.size := by
  rcases Nat.lt_or_ge b w.heap.size with h1 | h1
  · exact h1
  · simp [World.cell?, Array.getElem?_eq_none h1] at h
theorem named_yes (w : World) (c : Nat) (a s : ByteArray) (p : Int) (v : Value) (h1 : ∃ x n c, v = .slice x n c) (hc : w.cell? ⟨c, 0, none⟩ = some (.string s)) (he : a = s) :
    Calls Tryd.prog 45 #[.agg #[.string a, .int .i64 p, v], .pointer (some ⟨c, 0, none⟩)] w fun e w' => e = .returned (.bool true) ∧ Ext w w' := by
  have hq := nameT he
  obtain ⟨x, n, cp, rfl⟩ := h1
  have hlt : c < w.heap.size := cell_lt hc
  have HX := hid (fun o => (Ext.rf w).al o)
  go_enter Tryd.func45, Tryd.ntmps45
  go_wp2_with fail
  go_ret
  exact ⟨rfl, HX.out _⟩
theorem named_no (w : World) (c : Nat) (a s : ByteArray) (p : Int) (v : Value) (h1 : ∃ x n c, v = .slice x n c) (hc : w.cell? ⟨c, 0, none⟩ = some (.string s)) (he : ¬ a = s) :
    Calls Tryd.prog 45 #[.agg #[.string a, .int .i64 p, v], .pointer (some ⟨c, 0, none⟩)] w fun e w' => e = .returned (.bool false) ∧ Ext w w' := by
  have hq := nameF he
  obtain ⟨x, n, cp, rfl⟩ := h1
  have hlt : c < w.heap.size := cell_lt hc
  have HX := hid (fun o => (Ext.rf w).al o)
  go_enter Tryd.func45, Tryd.ntmps45
  go_wp2_with fail
  go_ret
  exact ⟨rfl, HX.out _⟩
theorem IndexName_any (w : World) (v : Value) (l : List Queue) (hv : QueuesV w v l) (c : Nat) (s : ByteArray) (hc : w.cell? ⟨c, 0, none⟩ = some (.string s)) :
    Calls Tryd.prog 44 #[v, .func (.func 45) #[] #[.pointer (some ⟨c, 0, none⟩)]] w fun e w' => e = .returned (.int .i64 (findN l (bs s))) ∧ Ext w w' := by
  have heg : ∀ (args : Array Value) (w : World), (callFunc 45 args).run Tryd.prog w = .ok (.enter 45 args) w := enters_of Tryd.func45 (by kernel_rfl) rfl
  obtain ⟨fa, fc, rfl, _, _, hl5, hfE⟩ := svAt hv
  have HF := hid hfE
  have HC := hid hc
  clear hv hfE hc
  generalize hn : l.length = n at *
  have Hn := hid hn
  clear hn
  go_enter Tryd.func44, Tryd.ntmps44
  go_wp2_with fail
  go_loopw [8] (fun i wr => ∃ k : Nat, k ≤ n ∧ i = .int .i64 k ∧ Hid (∀ j y, j < k → l[j]? = some y → bs y.Name ≠ bs s) ∧ Hid (Ext w wr)) (fun i _ => n - (intOf i).toNat)
  case atStart => exact ⟨0, Nat.zero_le _, rfl, hid (fun j y hj => absurd hj (Nat.not_lt_zero _)), hid (Ext.rf w)⟩
  case round =>
    obtain ⟨k, hk, rfl, Hall, HX⟩ := hrel
    by_cases hlt : k < n
    · obtain ⟨x, hxk⟩ := getQ (l := l) (k := k) (by rw [Hn.out]; exact hlt)
      obtain ⟨b, off, rfl, hb, hE⟩ := HF.out (by omega)
      obtain ⟨c1, c2, c3, c4, v, c5, hv⟩ := EQueue.mono w wr b _ x HX.out (hE k x hxk)
      obtain ⟨va, vc, rfl, _⟩ := hv.form
      have hcw := HX.out.ce' HC.out
      have HE := hid hE
      have HXK := hid hxk
      clear hv hxk hE
      generalize x.Cap.length = vn at *
      by_cases he : x.Name = s
      · have Hc := hid (named_yes wr c x.Name s x.Parent _ ⟨va, vn, vc, rfl⟩ hcw he)
        have Hr := hid (findN_hit HXK.out (congrArg bs he) Hall.out)
        clear he hcw
        go_wp2_with fail
        refine Hc.out.mono ?_
        rintro e w1 ⟨rfl, hx⟩
        have HX2 := hid (HX.out.tr hx)
        clear hx
        go_wp2_with fail
        go_ret
        rw [Hr.out]
        exact ⟨rfl, HX2.out⟩
      · have Hc := hid (named_no wr c x.Name s x.Parent _ ⟨va, vn, vc, rfl⟩ hcw he)
        have Hr := hid (show ∀ j y, j < k + 1 → l[j]? = some y → bs y.Name ≠ bs s from fun j y hj hy => if e : j = k then (fun h => he (by subst e; rw [HXK.out] at hy; cases hy; exact bs_inj h)) else Hall.out j y (by omega) hy)
        clear he hcw
        go_wp2_with fail
        refine Hc.out.mono ?_
        rintro e w1 ⟨rfl, hx⟩
        have HX2 := hid (HX.out.tr hx)
        clear hx
        go_wp2_with fail
        go_roundw
        case rel => exact ⟨k + 1, by omega, by go_num, Hr, HX2⟩
        case measure => simp [intOf]; omega
    · obtain rfl : k = n := by omega
      have Hr := hid (findN_miss (l := l) (s := bs s) (fun j y hy => Hall.out j y (by have := (List.getElem?_eq_some_iff.1 hy).1; rw [Hn.out] at this; exact this) hy))
      go_wp2_with fail
      go_ret
      rw [Hr.out]
      exact ⟨rfl, HX.out⟩
end Go.Proofs.YtdcndkojmflhnaaDoor
