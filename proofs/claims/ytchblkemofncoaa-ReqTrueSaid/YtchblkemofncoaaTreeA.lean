/- Walks of names: tree.Name, IsName; tree.Cap, CapFine. -/
import Derived.Test.YtchblkemofncoaaRefD
import Derived.Laws.RangeAny
import Derived.Laws.RangeString
set_option linter.unusedVariables false
namespace Go.Proofs.Ytchblkemofncoaa
open Go.RowKit

/-- byte i of a name -/
def byteAt (s : ByteArray) (i : Nat) : Nat := (s.get! i).toNat
def Letter (n : Nat) : Prop := 97 ≤ n ∧ n ≤ 122
instance (n : Nat) : Decidable (Letter n) := inferInstanceAs (Decidable (_ ∧ _))
/-- all its bytes are letters -/
def Letters (s : ByteArray) : Prop := ∀ i, i < s.size → Letter (byteAt s i)
instance (s : ByteArray) : Decidable (Letters s) := inferInstanceAs (Decidable (∀ i, i < s.size → _))
/-- it may be a name -/
def NameOk (s : ByteArray) : Prop := (1 ≤ s.size ∧ s.size ≤ 8) ∧ Letters s
instance (s : ByteArray) : Decidable (NameOk s) := inferInstanceAs (Decidable (_ ∧ _))

theorem byteAt_get (s : ByteArray) (i : Nat) (h : i < s.size) : byteAt s i = (s[i]'h).toNat := by
  unfold byteAt
  rw [show s.get! i = s[i]'h from by have := get_at s i h; simpa using this]

theorem name1_yes (x : Nat) (w : World) (h : Letter x) : Calls Try.prog 75 #[.int .i32 x] w fun e w' => e = .returned (.bool false) ∧ w' = w := by
  have h1 := h.1
  have h2 := h.2
  have h3 : ¬ (x : Int) < 97 := by omega
  have h4 : ¬ (122 : Int) < (x : Int) := by omega
  go_enter Try.func75, Try.ntmps75
  go_wp2
  go_ret
  exact ⟨rfl, rfl⟩
theorem name1_no (x : Nat) (w : World) (h : ¬ Letter x) : Calls Try.prog 75 #[.int .i32 x] w fun e w' => e = .returned (.bool true) ∧ w' = w := by
  by_cases h1 : x < 97
  · have h3 : (x : Int) < 97 := by omega
    clear h
    go_enter Try.func75, Try.ntmps75
    go_wp2
    go_ret
    exact ⟨rfl, rfl⟩
  · have h2 : ¬ x ≤ 122 := fun h2 => h ⟨by omega, h2⟩
    have h3 : ¬ (x : Int) < 97 := by omega
    have h4 : (122 : Int) < (x : Int) := by omega
    clear h
    go_enter Try.func75, Try.ntmps75
    go_wp2
    go_ret
    exact ⟨rfl, rfl⟩

theorem iter_ext (w : World) (s : ByteArray) (pos : Nat) : Ext w (w.iter s pos) := (Ext.rf w).al _

/-- the first rune that is no letter; -1: there is none -/
def LetterAt (s : ByteArray) (r : Int) : Prop := (Letters s ∧ r = -1) ∨ (¬ Letters s ∧ 0 ≤ r)

set_option maxHeartbeats 1000000 in
theorem indexFunc_name (w : World) (s : ByteArray) (hs : s.size ≤ 9223372036854775807) :
    Calls Try.prog 129 #[.string s, .func (.func 75) #[] #[], .bool true] w fun e w' => ∃ r, e = .returned (.int .i64 r) ∧ LetterAt s r ∧ Ext w w' := by
  have heg : ∀ (args : Array Value) (w : World), (callFunc 75 args).run Try.prog w = .ok (.enter 75 args) w := enters_of Try.func75 (by kernel_rfl) rfl
  go_enter Try.func129, Try.ntmps129
  go_wp2_with fail
  go_loopw [] (fun wr => ∃ pos : Nat, wr = w.iter s pos ∧ pos ≤ s.size ∧ Hid (∀ i, i < pos → Letter (byteAt s i))) (fun wr => s.size - wr.iterPos w.heap.size)
  case atStart => exact ⟨0, rfl, by omega, fun i hi => absurd hi (Nat.not_lt_zero _)⟩
  case round =>
    obtain ⟨pos, rfl, hpos, Hl⟩ := hrel
    by_cases hps : pos < s.size
    · by_cases hlet : Letter (byteAt s pos)
      · have h1 : (s[pos]'hps).toNat < 128 := by have := hlet.2; rw [byteAt_get s pos hps] at this; omega
        have hnx : ∀ ty, (Instr.next (.pointer (some ⟨w.heap.size, 0, none⟩)) true ty).run Try.prog (w.iter s pos) = .ok (.tuple #[.bool true, .int .i64 pos, .int .i32 (byteAt s pos)]) (w.iter s (pos + 1)) := fun ty => by
          rw [byteAt_get s pos hps]; exact run_next_ascii w s pos ty hps h1
        have C := hid (name1_yes (byteAt s pos) (w.iter s (pos + 1)) hlet)
        have Hl2 := hid (show ∀ i, i < pos + 1 → Letter (byteAt s i) from fun i hi => if e : i = pos then e ▸ hlet else Hl.out i (by omega))
        clear hlet h1 Hl
        generalize byteAt s pos = x at *
        go_wp2_with fail
        refine C.out.mono ?_
        rintro e w1 ⟨rfl, rfl⟩
        go_wp2_with fail
        go_roundw
        case rel => exact ⟨pos + 1, rfl, by omega, Hl2⟩
        case measure => simp; omega
      · obtain ⟨R, K, hR, hnl⟩ : ∃ R K, Utf8.decode s pos = (R, K) ∧ ¬ Letter R := by
          by_cases h1 : (s[pos]'hps).toNat < 128
          · exact ⟨_, _, decode_ascii s pos hps h1, by rw [← byteAt_get s pos hps]; exact hlet⟩
          · have := decode_high s pos hps (by omega)
            exact ⟨(Utf8.decode s pos).1, (Utf8.decode s pos).2, rfl, fun h => by have := h.2; omega⟩
        have hnx : ∀ ty, (Instr.next (.pointer (some ⟨w.heap.size, 0, none⟩)) true ty).run Try.prog (w.iter s pos) = .ok (.tuple #[.bool true, .int .i64 pos, .int .i32 R]) (w.iter s (pos + K)) := fun ty => by
          have := run_next_any (P := Try.prog) w s pos ty hps
          rw [hR] at this; exact this
        have C := hid (name1_no R (w.iter s (pos + K)) hnl)
        have Hr := hid (show LetterAt s pos from .inr ⟨fun h => hlet (h pos hps), by omega⟩)
        clear hlet hnl hR
        go_wp2_with fail
        refine C.out.mono ?_
        rintro e w1 ⟨rfl, rfl⟩
        go_wp2_with fail
        go_ret
        exact ⟨_, rfl, Hr.out, iter_ext _ _ _⟩
    · have hnx : ∀ ty, (Instr.next (.pointer (some ⟨w.heap.size, 0, none⟩)) true ty).run Try.prog (w.iter s pos) = .ok (.tuple #[.bool false]) (w.iter s pos) := fun ty => run_next_end w s pos ty hps
      have Hr := hid (show LetterAt s (-1) from .inl ⟨fun i hi => Hl.out i (by omega), rfl⟩)
      go_wp2_with fail
      go_ret
      exact ⟨_, rfl, Hr.out, iter_ext _ _ _⟩

theorem IndexFunc_name (w : World) (s : ByteArray) (hs : s.size ≤ 9223372036854775807) :
    Calls Try.prog 111 #[.string s, .func (.func 75) #[] #[]] w fun e w' => ∃ r, e = .returned (.int .i64 r) ∧ LetterAt s r ∧ Ext w w' := by
  have C := hid (indexFunc_name w s hs)
  go_enter Try.func111, Try.ntmps111
  go_wp2_with fail
  refine C.out.mono ?_
  rintro e w1 ⟨r, rfl, hr, hx⟩
  have Hr := hid hr
  clear hr
  go_wp2_with fail
  go_ret
  exact ⟨_, rfl, Hr.out, hx⟩

theorem ContainsFunc_name (w : World) (s : ByteArray) (hs : s.size ≤ 9223372036854775807) :
    Calls Try.prog 74 #[.string s, .func (.func 75) #[] #[]] w fun e w' => e = .returned (.bool (decide (¬ Letters s))) ∧ Ext w w' := by
  have C := hid (IndexFunc_name w s hs)
  by_cases hl : Letters s
  · have hd := hid (deF (p := ¬ Letters s) (fun h => h hl))
    go_enter Try.func74, Try.ntmps74
    go_wp2_with fail
    refine C.out.mono ?_
    rintro e w1 ⟨r, rfl, hr, hx⟩
    obtain rfl : r = -1 := by rcases hr with ⟨_, h⟩ | ⟨h, _⟩; exact h; exact absurd hl h
    clear hr hl
    go_wp2_with fail
    go_ret
    exact ⟨(congrArg (fun b => Ending.returned (.bool b)) hd.out).symm, hx⟩
  · have hd := hid (deT (p := ¬ Letters s) hl)
    go_enter Try.func74, Try.ntmps74
    go_wp2_with fail
    refine C.out.mono ?_
    rintro e w1 ⟨r, rfl, hr, hx⟩
    have hr0 : 0 ≤ r := by rcases hr with ⟨h, _⟩ | ⟨_, h⟩; exact absurd h hl; exact h
    clear hr hl
    go_wp2_with fail
    go_ret
    exact ⟨(congrArg (fun b => Ending.returned (.bool b)) hd.out).symm, hx⟩

theorem Name_any (w : World) (s : ByteArray) (hs : s.size ≤ 9223372036854775807) :
    Calls Try.prog 23 #[.string s] w fun e w' => e = .returned (.bool (decide (NameOk s))) ∧ Ext w w' := by
  have C := hid (ContainsFunc_name w s hs)
  by_cases h1 : 0 < s.size
  · have h1' : (0 : Int) < (s.size : Int) := by omega
    by_cases h2 : s.size ≤ 8
    · have h2' : (s.size : Int) ≤ 8 := by omega
      by_cases hl : Letters s
      · rw [deF (p := ¬ Letters s) (fun h => h hl)] at C
        have hd := hid (deT (p := NameOk s) ⟨⟨h1, h2⟩, hl⟩)
        clear hl
        go_enter Try.func23, Try.ntmps23
        go_wp2_with fail
        refine C.out.mono ?_
        rintro e w1 ⟨rfl, hx⟩
        go_wp2_with fail
        go_ret
        exact ⟨(congrArg (fun b => Ending.returned (.bool b)) hd.out).symm, hx⟩
      · rw [deT (p := ¬ Letters s) hl] at C
        have hd := hid (deF (p := NameOk s) (fun h => hl h.2))
        clear hl
        go_enter Try.func23, Try.ntmps23
        go_wp2_with fail
        refine C.out.mono ?_
        rintro e w1 ⟨rfl, hx⟩
        go_wp2_with fail
        go_ret
        exact ⟨(congrArg (fun b => Ending.returned (.bool b)) hd.out).symm, hx⟩
    · have h2' : ¬ (s.size : Int) ≤ 8 := by omega
      have hd := hid (deF (p := NameOk s) (fun h => h2 h.1.2))
      go_enter Try.func23, Try.ntmps23
      go_wp2_with fail
      go_ret
      exact ⟨(congrArg (fun b => Ending.returned (.bool b)) hd.out).symm, Ext.rf _⟩
  · have h1' : ¬ (0 : Int) < (s.size : Int) := by omega
    have hd := hid (deF (p := NameOk s) (fun h => h1 h.1.1))
    go_enter Try.func23, Try.ntmps23
    go_wp2_with fail
    go_ret
    exact ⟨(congrArg (fun b => Ending.returned (.bool b)) hd.out).symm, Ext.rf _⟩

theorem index_str (s : ByteArray) (k : Nat) (h : k < s.size) (w : World) : (Instr.index 9 (.string s) (.int .i64 k)).run Try.prog w = .ok (.int .u8 (byteAt s k)) w := by
  rw [run_index_string w 9 s .i64 k Try.underlying9, byteAt_get s k h]
  simp [h]

theorem IsName_any (w : World) (s : ByteArray) (hs : s.size ≤ 9223372036854775807) :
    Calls Try.prog 24 #[.string s] w fun e w' => e = .returned (.bool (decide (NameOk s))) ∧ Ext w w' := by
  go_enter Try.func24, Try.ntmps24
  go_wp2_with fail
  go_loopw [3] (fun c wr => ∃ k : Nat, c = .int .i64 k ∧ k ≤ s.size ∧ Hid (∀ i, i < k → Letter (byteAt s i)) ∧ Ext w wr) (fun c _ => s.size - (intOf c).toNat)
  case atStart => exact ⟨0, rfl, by omega, fun i hi => absurd hi (Nat.not_lt_zero _), Ext.rf _⟩
  case round =>
    obtain ⟨k, rfl, hk, Hl, hx⟩ := hrel
    by_cases hlt : k < s.size
    · have hlt' : (k : Int) < (s.size : Int) := by omega
      have hix := fun w => index_str s k hlt w
      by_cases h1 : byteAt s k < 97
      · have h1' : (byteAt s k : Int) < 97 := by omega
        have hd := hid (deF (p := NameOk s) (fun h => by have := (h.2 k hlt).1; omega))
        generalize byteAt s k = x at *
        go_wp2_with fail
        go_ret
        exact ⟨(congrArg (fun b => Ending.returned (.bool b)) hd.out).symm, hx⟩
      · have h1' : ¬ (byteAt s k : Int) < 97 := by omega
        by_cases h2 : 122 < byteAt s k
        · have h2' : (122 : Int) < (byteAt s k : Int) := by omega
          have hd := hid (deF (p := NameOk s) (fun h => by have := (h.2 k hlt).2; omega))
          generalize byteAt s k = x at *
          go_wp2_with fail
          go_ret
          exact ⟨(congrArg (fun b => Ending.returned (.bool b)) hd.out).symm, hx⟩
        · have h2' : ¬ (122 : Int) < (byteAt s k : Int) := by omega
          have Hl2 := hid (show ∀ i, i < k + 1 → Letter (byteAt s i) from fun i hi => if e : i = k then e ▸ ⟨by omega, by omega⟩ else Hl.out i (by omega))
          clear Hl
          generalize byteAt s k = x at *
          go_wp2_with fail
          go_roundw
          case rel => exact ⟨k + 1, by go_num, by omega, Hl2, hx⟩
          case measure => simp [intOf]; omega
    · have hlt' : ¬ (k : Int) < (s.size : Int) := by omega
      by_cases hsz : 1 ≤ s.size ∧ s.size ≤ 8
      · have C := hid (fun (W : World) => within_yes (s.size : Int) 1 8 W (by omega) (by omega))
        have hd := hid (deT (p := NameOk s) ⟨hsz, fun i hi => Hl.out i (by omega)⟩)
        clear hsz
        go_wp2_with fail
        refine (C.out _).mono ?_
        rintro e w1 ⟨rfl, rfl⟩
        go_wp2_with fail
        go_ret
        exact ⟨(congrArg (fun b => Ending.returned (.bool b)) hd.out).symm, hx⟩
      · have C := hid (fun (W : World) => within_no (s.size : Int) 1 8 W (by omega))
        have hd := hid (deF (p := NameOk s) (fun h => hsz h.1))
        clear hsz
        go_wp2_with fail
        refine (C.out _).mono ?_
        rintro e w1 ⟨rfl, rfl⟩
        go_wp2_with fail
        go_ret
        exact ⟨(congrArg (fun b => Ending.returned (.bool b)) hd.out).symm, hx⟩

end Go.Proofs.Ytchblkemofncoaa
