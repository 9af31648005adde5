/- Texts of one kind, one behind the other. -/
import Derived.Test.YtpdfdemoflofhaaGreatProg
import Derived.Test.YtpdfdemoflofhaaGreatMb0
import Derived.Conc.LoneSelect
import Derived.KernelRfl
import Derived.Test.YtpdfdemoflofhaaGreatMd0
import Derived.Test.YtpdfdemoflofhaaGreatMc0
/- uart.take and uart.put: a SELECT of one case with a default: what each is worth. -/
namespace Go.Proofs.YtpdfdemoflofhaaGreat.Cd
open Go Go.Dx Go.Conc Go.RowKit
/-- What take does. -/
def sTake : Sp := fun args h => match args with
  | [.chan (some c)] => match h.get c with
    | some (.chan cap (.int .u8 n :: buf)) => some (.tuple #[.int .u8 n, .bool true], h.put c (some (.chan cap buf)))
    | some (.chan _ []) => some (.tuple #[.int .u8 0, .bool false], h)
    | _ => none
  | _ => none
/-- What put does. -/
def sPut : Sp := fun args h => match args with
  | [.chan (some c), .int .u8 n] => match h.get c with
    | some (.chan cap buf) => if buf.length < cap then some (.bool true, h.put c (some (.chan cap (buf ++ [.int .u8 n])))) else some (.bool false, h)
    | _ => none
  | _ => none
set_option maxRecDepth 100000 in
theorem take_ready {w : World} {c cap s r : Nat} {n : Int} {buf : Array Value} (hc : w.heap[c]? = some (.chan cap buf false s r false)) (hv : buf.getD 0 undef = .int .u8 n) (hs : 0 < buf.size) :
    Calls Tryz.prog 93 #[.chan (some c)] w fun e w' => e = .returned (.tuple #[.int .u8 n, .bool true]) ∧ w' = w.setChan c cap (buf.extract 1 buf.size) false s (r + 1) false := by
  refine calls_of_loneTo fun cs => ?_
  have e : Frame.enter Tryz.prog 93 #[.chan (some c)] .normal = (base 93).at ⟨#[.chan (some c), undef, undef, undef, undef, undef, undef, undef, undef, undef, undef], []⟩ [.code (Tryz.f93.body.getD .skip)] := by
    simp [Frame.enter, Frame.at, Tryz.func93, base, Tryz.f93]
  rw [e]
  refine LoneTo.goes (n := 30) ?_
  simp only [Tryz.f93, Option.getD_some]
  s_c stepG_seq
  s_reg
  s_op
  s_op
  s_c stepG_region_end
  s_c stepG_seq
  s_reg
  s_op
  s_c stepG_region_end
  s_c stepG_seq
  s_reg
  s_stop
  refine LoneTo.step (step_lone_select_recv_buf (c := c) (cap := cap) (buf := buf) (s := s) (r := r) (tm := false) (closed := false) (z := .int .u8 0) (stepG_comm (cases := #[rcase c (.int .u8 0)]) (blocking := false) (shape := .select) (w' := w) rfl rfl (by decide) (by simp [go_sem, execOp, rcase, Act.eval])) hc hs) ?_
  rw [Frame.finish_at, hv]
  walk_nrm
  refine LoneTo.goes (n := 30) ?_
  s_op
  s_op
  s_c stepG_region_end
  s_c stepG_block
  s_cond true
  s_c stepG_seq
  s_reg
  s_op
  s_op
  s_c stepG_region_end
  s_c stepG_seq
  s_reg
  s_op
  s_op
  s_op
  s_c stepG_region_end
  s_c stepG_ret'
  s_stop
  refine LoneTo.done ⟨.returned (.tuple #[.int .u8 n, .bool true]), _, rfl, ⟨rfl, rfl⟩, rfl, rfl, rfl, rfl, _, Tryz.func93, by simp [results, Tryz.f93, Frame.at]⟩
set_option maxRecDepth 100000 in
theorem take_none {w : World} {c cap s r : Nat} (hc : w.heap[c]? = some (.chan cap #[] false s r false)) :
    Calls Tryz.prog 93 #[.chan (some c)] w fun e w' => e = .returned (.tuple #[.int .u8 0, .bool false]) ∧ w' = w := by
  refine calls_of_loneTo fun cs => ?_
  have e : Frame.enter Tryz.prog 93 #[.chan (some c)] .normal = (base 93).at ⟨#[.chan (some c), undef, undef, undef, undef, undef, undef, undef, undef, undef, undef], []⟩ [.code (Tryz.f93.body.getD .skip)] := by
    simp [Frame.enter, Frame.at, Tryz.func93, base, Tryz.f93]
  rw [e]
  refine LoneTo.goes (n := 30) ?_
  simp only [Tryz.f93, Option.getD_some]
  s_c stepG_seq
  s_reg
  s_op
  s_op
  s_c stepG_region_end
  s_c stepG_seq
  s_reg
  s_op
  s_c stepG_region_end
  s_c stepG_seq
  s_reg
  s_stop
  refine LoneTo.step (step_lone_select_default (c := c) (cap := cap) (s := s) (r := r) (tm := false) (z := .int .u8 0) (stepG_comm (cases := #[rcase c (.int .u8 0)]) (blocking := false) (shape := .select) (w' := w) rfl rfl (by decide) (by simp [go_sem, execOp, rcase, Act.eval])) hc) ?_
  rw [Frame.finish_at]
  walk_nrm
  refine LoneTo.goes (n := 30) ?_
  s_op
  s_op
  s_c stepG_region_end
  s_c stepG_block
  s_cond false
  s_c stepG_seq
  s_reg
  s_op
  s_op
  s_c stepG_region_end
  s_c stepG_ret'
  s_stop
  refine LoneTo.done ⟨.returned (.tuple #[.int .u8 0, .bool false]), _, rfl, ⟨rfl, rfl⟩, rfl, rfl, rfl, rfl, _, Tryz.func93, by simp [results, Tryz.f93, Frame.at]⟩
set_option maxRecDepth 100000 in
theorem put_room {w : World} {c cap s r : Nat} {n : Int} {buf : Array Value} (hc : w.heap[c]? = some (.chan cap buf false s r false)) (hs : buf.size < cap) :
    Calls Tryz.prog 101 #[.chan (some c), .int .u8 n] w fun e w' => e = .returned (.bool true) ∧ w' = w.setChan c cap (buf.push (.int .u8 n)) false (s + 1) r false := by
  refine calls_of_loneTo fun cs => ?_
  have e : Frame.enter Tryz.prog 101 #[.chan (some c), .int .u8 n] .normal = (base 101).at ⟨#[.chan (some c), .int .u8 n, undef, undef, undef, undef, undef, undef, undef, undef], []⟩ [.code (Tryz.f101.body.getD .skip)] := by
    simp [Frame.enter, Frame.at, Tryz.func101, base, Tryz.f101]
  rw [e]
  refine LoneTo.goes (n := 30) ?_
  simp only [Tryz.f101, Option.getD_some]
  s_c stepG_seq
  s_reg
  s_op
  s_c stepG_region_end
  s_c stepG_seq
  s_c stepG_seq
  s_reg
  s_op
  s_c stepG_region_end
  s_reg
  s_op
  s_c stepG_region_end
  s_c stepG_seq
  s_reg
  s_stop
  refine LoneTo.step (step_lone_select_send_room (c := c) (cap := cap) (buf := buf) (s := s) (r := r) (tm := false) (stepG_comm (cases := #[scase c (.int .u8 n) (.int .u8 0)]) (blocking := false) (shape := .select) (w' := w) rfl rfl (by decide) (by simp [go_sem, execOp, scase, Act.eval])) hc hs) ?_
  rw [Frame.finish_at]
  walk_nrm
  refine LoneTo.goes (n := 30) ?_
  s_op
  s_op
  s_c stepG_region_end
  s_c stepG_block
  s_cond true
  s_c stepG_seq
  s_reg
  s_op
  s_c stepG_region_end
  s_c stepG_ret'
  s_stop
  refine LoneTo.done ⟨.returned (.bool true), _, rfl, ⟨rfl, rfl⟩, rfl, rfl, rfl, rfl, _, Tryz.func101, by simp [results, Tryz.f101, Frame.at]⟩
set_option maxRecDepth 100000 in
theorem put_full {w : World} {c cap s r : Nat} {n : Int} {buf : Array Value} (hc : w.heap[c]? = some (.chan cap buf false s r false)) (hs : cap ≤ buf.size) :
    Calls Tryz.prog 101 #[.chan (some c), .int .u8 n] w fun e w' => e = .returned (.bool false) ∧ w' = w := by
  refine calls_of_loneTo fun cs => ?_
  have e : Frame.enter Tryz.prog 101 #[.chan (some c), .int .u8 n] .normal = (base 101).at ⟨#[.chan (some c), .int .u8 n, undef, undef, undef, undef, undef, undef, undef, undef], []⟩ [.code (Tryz.f101.body.getD .skip)] := by
    simp [Frame.enter, Frame.at, Tryz.func101, base, Tryz.f101]
  rw [e]
  refine LoneTo.goes (n := 30) ?_
  simp only [Tryz.f101, Option.getD_some]
  s_c stepG_seq
  s_reg
  s_op
  s_c stepG_region_end
  s_c stepG_seq
  s_c stepG_seq
  s_reg
  s_op
  s_c stepG_region_end
  s_reg
  s_op
  s_c stepG_region_end
  s_c stepG_seq
  s_reg
  s_stop
  refine LoneTo.step (step_lone_select_send_full (c := c) (cap := cap) (buf := buf) (s := s) (r := r) (tm := false) (stepG_comm (cases := #[scase c (.int .u8 n) (.int .u8 0)]) (blocking := false) (shape := .select) (w' := w) rfl rfl (by decide) (by simp [go_sem, execOp, scase, Act.eval])) hc hs) ?_
  rw [Frame.finish_at]
  walk_nrm
  refine LoneTo.goes (n := 30) ?_
  s_op
  s_op
  s_c stepG_region_end
  s_c stepG_block
  s_cond false
  s_c stepG_seq
  s_reg
  s_op
  s_c stepG_region_end
  s_c stepG_ret'
  s_stop
  refine LoneTo.done ⟨.returned (.bool false), _, rfl, ⟨rfl, rfl⟩, rfl, rfl, rfl, rfl, _, Tryz.func101, by simp [results, Tryz.f101, Frame.at]⟩
theorem vr_two {φ : Phi} {a b a' b' : Value} (h1 : VR φ a a') (h2 : VR φ b b') : VR φ (.tuple #[a, b]) (.tuple #[a', b']) := .tuple _ _ rfl fun i hi => by
  have : i = 0 ∨ i = 1 := by simp at hi; omega
  rcases this with rfl | rfl
  · exact h1
  · exact h2
theorem lr_nil {φ : Phi} {l : List Value} (h : LR φ [] l) : l = [] := List.length_eq_zero_iff.1 (by rw [← h.1]; rfl)
theorem take_ok : SpecOK Tryz.prog 93 sTake := by
  intro args h v h' hs
  have hcal : callable Tryz.prog 93 = true := by kernel_rfl
  unfold sTake at hs
  split at hs
  case h_2 => cases hs
  rename_i c
  split at hs
  · rename_i cap n buf hg
    cases hs
    refine ⟨hcal, .put (.inl (by simp [hg])), fun φ w args' hl hr => ?_⟩
    obtain ⟨u, k, rfl, hv, hl2⟩ := hl.head
    obtain rfl := lr_nil hl2
    cases hv with
    | chan hφ =>
      rename_i b' m
      obtain ⟨b2, m2, hφ2, arr, s, r, hc, hlr⟩ := hr.live c _ hg
      rw [hφ] at hφ2
      cases hφ2
      obtain ⟨x, k, ha, hx, hlk⟩ := hlr.head
      cases hx
      have hsz : 0 < arr.size := by
        have := congrArg List.length ha
        simp at this
        omega
      have h0 : arr.getD 0 undef = .int .u8 n := by
        rw [Array.getD_eq_getD_getElem?, ← Array.getElem?_toList, ha]
        rfl
      refine (take_ready hc h0 hsz).mono fun e w' ⟨he, hw⟩ => ⟨φ, _, he, ?_, vr_two (.int ..) (.bool ..)⟩
      subst hw
      refine Ext.set hr hg (by simp [Hp.wrt, hg]) hφ (x' := .chan cap (arr.extract 1 arr.size) false s (r + 1) false) rfl rfl rfl rfl ⟨arr.extract 1 arr.size, s, r + 1, heap_setChan w b' cap (arr.extract 1 arr.size) false s (r + 1) false (Array.getElem?_eq_some_iff.1 hc).1, ?_⟩
      have hk : arr.size = k.length + 1 := by
        have := congrArg List.length ha
        simpa using this
      rw [Array.toList_extract, ha, hk]
      simpa using hlk
  · rename_i cap hg
    cases hs
    refine ⟨hcal, .refl _, fun φ w args' hl hr => ?_⟩
    obtain ⟨u, k, rfl, hv, hl2⟩ := hl.head
    obtain rfl := lr_nil hl2
    cases hv with
    | chan hφ =>
      rename_i b' m
      obtain ⟨b2, m2, hφ2, arr, s, r, hc, hlr⟩ := hr.live c _ hg
      rw [hφ] at hφ2
      cases hφ2
      have ha : arr = #[] := by
        have := lr_nil hlr
        simpa using this
      subst ha
      refine (take_none hc).mono fun e w' ⟨he, hw⟩ => ⟨φ, _, he, ?_, vr_two (.int ..) (.bool ..)⟩
      subst hw
      exact .refl hr
  · cases hs
theorem put_ok : SpecOK Tryz.prog 101 sPut := by
  intro args h v h' hs
  have hcal : callable Tryz.prog 101 = true := by kernel_rfl
  unfold sPut at hs
  split at hs
  case h_2 => cases hs
  rename_i c n
  split at hs
  case h_2 => cases hs
  rename_i cap buf hg
  split at hs
  · rename_i hlt
    cases hs
    refine ⟨hcal, .put (.inl (by simp [hg])), fun φ w args' hl hr => ?_⟩
    obtain ⟨u, k, rfl, hv, hl2⟩ := hl.head
    obtain ⟨u2, k2, rfl, hv2, hl3⟩ := hl2.head
    obtain rfl := lr_nil hl3
    cases hv2
    cases hv with
    | chan hφ =>
      rename_i b' m
      obtain ⟨b2, m2, hφ2, arr, s, r, hc, hlr⟩ := hr.live c _ hg
      rw [hφ] at hφ2
      cases hφ2
      have hsz : arr.size = buf.length := by rw [hlr.1]; simp
      refine (put_room hc (by omega)).mono fun e w' ⟨he, hw⟩ => ⟨φ, _, he, ?_, .bool ..⟩
      subst hw
      refine Ext.set hr hg (by simp [Hp.wrt, hg]) hφ (x' := .chan cap (arr.push (.int .u8 n)) false (s + 1) r false) rfl rfl rfl rfl ⟨arr.push (.int .u8 n), s + 1, r, heap_setChan w b' cap (arr.push (.int .u8 n)) false (s + 1) r false (Array.getElem?_eq_some_iff.1 hc).1, ?_⟩
      rw [Array.toList_push]
      exact hlr.append (.cons (.int ..) (.nil _))
  · rename_i hlt
    cases hs
    refine ⟨hcal, .refl _, fun φ w args' hl hr => ?_⟩
    obtain ⟨u, k, rfl, hv, hl2⟩ := hl.head
    obtain ⟨u2, k2, rfl, hv2, hl3⟩ := hl2.head
    obtain rfl := lr_nil hl3
    cases hv2
    cases hv with
    | chan hφ =>
      rename_i b' m
      obtain ⟨b2, m2, hφ2, arr, s, r, hc, hlr⟩ := hr.live c _ hg
      rw [hφ] at hφ2
      cases hφ2
      have hsz : arr.size = buf.length := by rw [hlr.1]; simp
      refine (put_full hc (by omega)).mono fun e w' ⟨he, hw⟩ => ⟨φ, _, he, ?_, .bool ..⟩
      subst hw
      exact .refl hr
end Go.Proofs.YtpdfdemoflofhaaGreat.Cd

/- The code of the functions that are reached, as the interpreter reads it. -/
set_option maxRecDepth 100000
set_option linter.defProp false
namespace Go.Proofs.YtpdfdemoflofhaaGreat.Cd
open Go Go.Dx
def T : Nat → Option Dx.Fn := ins n_uart_take (.spec sTake) <| ins n_uart_put (.spec sPut) <| ins n_pianolalaw15_BusNumbers (.code f_pianolalaw15_BusNumbers) <| ins n_bus_New (.code f_bus_New) <| ins n_pianolaref15_New (.code f_pianolaref15_New) <| ins n_bus_Bus_Load (.code f_bus_Bus_Load) <| ins n_pianolaref15_Bus_Load (.code f_pianolaref15_Bus_Load) <| ins n_bus_Bus_Store (.code f_bus_Bus_Store) <| ins n_pianolaref15_Bus_Store (.code f_pianolaref15_Bus_Store) <| ins n_pianolalaw15_same (.code f_pianolalaw15_same) <| ins n_bus_Bus_Fire (.code f_bus_Bus_Fire) <| ins n_pianolaref15_Bus_Fire (.code f_pianolaref15_Bus_Fire) <| ins n_pianolalaw15_known (.code f_pianolalaw15_known) <| ins n_ram_New (.code f_ram_New) <| ins n_wheel_New (.code f_wheel_New) <| ins n_ram_Ram_Put (.code f_ram_Ram_Put) <| ins n_ram_Ram_Size (.code f_ram_Ram_Size) <| ins n_lines_New (.code f_lines_New) <| ins n_timer_New (.code f_timer_New) <| ins n_uart_New (.code f_uart_New) <| ins n_dma_New (.code f_dma_New) <| ins n_disk_New (.code f_disk_New) <| ins n_pianolaref2_New (.code f_pianolaref2_New) <| ins n_ram_Ram_Load (.code f_ram_Ram_Load) <| ins n_bus_window (.code f_bus_window) <| ins n_bus_Bus_read (.code f_bus_Bus_read) <| ins n_bus_Bus_gather (.code f_bus_Bus_gather) <| ins n_pianolaref2_Ram_Load (.code f_pianolaref2_Ram_Load) <| ins n_pianolaref15_where (.code f_pianolaref15_where) <| ins n_pianolaref15_Bus_Word (.code f_pianolaref15_Bus_Word) <| ins n_pianolaref15_Bus_gather (.code f_pianolaref15_Bus_gather) <| ins n_ram_Ram_Store (.code f_ram_Ram_Store) <| ins n_bus_Bus_write (.code f_bus_Bus_write) <| ins n_pianolaref2_Ram_Store (.code f_pianolaref2_Ram_Store) <| ins n_pianolaref15_Bus_Set (.code f_pianolaref15_Bus_Set) <| ins n_bus_Bus_Next (.code f_bus_Bus_Next) <| ins n_pianolaref15_Bus_Next (.code f_pianolaref15_Bus_Next) <| ins n_bus_Bus_Raised (.code f_bus_Bus_Raised) <| ins n_pianolaref15_Bus_Raised (.code f_pianolaref15_Bus_Raised) <| ins n_pianolabook_Same_api_Event (.code f_pianolabook_Same_api_Event) <| ins n_bus_Bus_Events (.code f_bus_Bus_Events) <| ins n_bus_Bus_Out (.code f_bus_Bus_Out) <| ins n_bus_Bus_Disk (.code f_bus_Bus_Disk) <| ins n_wheel_Wheel_Take (.code f_wheel_Wheel_Take) <| ins n_bus_Bus_fire (.code f_bus_Bus_fire) <| ins n_pianolaref9_Wheel_Take (.code f_pianolaref9_Wheel_Take) <| ins n_pianolaref15_Bus_B1 (.code f_pianolaref15_Bus_B1) <| ins n_bus_Bus_Ram (.code f_bus_Bus_Ram) <| ins n_pianolabook_Within (.code f_pianolabook_Within) <| ins n_ram_Ram_Bytes (.code f_ram_Ram_Bytes) <| ins n_ram_Ram_there (.code f_ram_Ram_there) <| ins n_ram_Ram_touch (.code f_ram_Ram_touch) <| ins n_ram_Ram_even (.code f_ram_Ram_even) <| ins n_lines_Lines_Read (.code f_lines_Lines_Read) <| ins n_timer_Timer_Read (.code f_timer_Timer_Read) <| ins n_uart_Uart_Read (.code f_uart_Uart_Read) <| ins n_dma_Dma_Read (.code f_dma_Dma_Read) <| ins n_disk_Disk_Read (.code f_disk_Disk_Read) <| ins n_lines_Lines_Set (.code f_lines_Lines_Set) <| ins n_bus_Bus_line (.code f_bus_Bus_line) <| ins n_pianolaref2_Ram_In (.code f_pianolaref2_Ram_In) <| ins n_pianolaref15_bit (.code f_pianolaref15_bit) <| ins n_pianolaref15_Bus_Line (.code f_pianolaref15_Bus_Line) <| ins n_lines_Lines_Write (.code f_lines_Lines_Write) <| ins n_timer_Timer_Write (.code f_timer_Timer_Write) <| ins n_uart_Uart_Write (.code f_uart_Uart_Write) <| ins n_dma_Dma_Write (.code f_dma_Dma_Write) <| ins n_disk_Disk_Write (.code f_disk_Disk_Write) <| ins n_pianolaref2_Ram_touch (.code f_pianolaref2_Ram_touch) <| ins n_pianolaref15_Bus_timer (.code f_pianolaref15_Bus_timer) <| ins n_pianolaref15_Bus_uart (.code f_pianolaref15_Bus_uart) <| ins n_pianolaref15_Bus_dma (.code f_pianolaref15_Bus_dma) <| ins n_pianolaref15_Bus_disk (.code f_pianolaref15_Bus_disk) <| ins n_wheel_Wheel_Next (.code f_wheel_Wheel_Next) <| ins n_lines_Lines_Raised (.code f_lines_Lines_Raised) <| ins n_wheel_Wheel_All (.code f_wheel_Wheel_All) <| ins n_uart_Uart_Out (.code f_uart_Uart_Out) <| ins n_disk_Disk_Bytes (.code f_disk_Disk_Bytes) <| ins n_slices_Delete_api_Event_api_Event (.code f_slices_Delete_api_Event_api_Event) <| ins n_timer_Timer_Fire (.code f_timer_Timer_Fire) <| ins n_uart_Uart_Fire (.code f_uart_Uart_Fire) <| ins n_dma_Dma_Fire (.code f_dma_Dma_Fire) <| ins n_disk_Disk_Fire (.code f_disk_Disk_Fire) <| ins n_pianolaref9_Wheel_Arm (.code f_pianolaref9_Wheel_Arm) <| ins n_pianolaref15_Bus_move (.code f_pianolaref15_Bus_move) <| ins n_pianolaref15_Bus_sector (.code f_pianolaref15_Bus_sector) <| ins n_slices_Clone_byte_byte (.code f_slices_Clone_byte_byte) <| ins n_uart_bit (.code f_uart_bit) <| ins n_timer_Timer_Line (.code f_timer_Timer_Line) <| ins n_uart_Uart_Line (.code f_uart_Uart_Line) <| ins n_dma_Dma_Line (.code f_dma_Dma_Line) <| ins n_disk_Disk_Line (.code f_disk_Disk_Line) <| ins n_timer_Timer_arm (.code f_timer_Timer_arm) <| ins n_wheel_Wheel_Cancel (.code f_wheel_Wheel_Cancel) <| ins n_uart_Uart_arm (.code f_uart_Uart_arm) <| ins n_dma_Dma_begin (.code f_dma_Dma_begin) <| ins n_disk_Disk_begin (.code f_disk_Disk_begin) <| ins n_pianolaref9_Wheel_Cancel (.code f_pianolaref9_Wheel_Cancel) <| ins n_slices_Clone_api_Event_api_Event (.code f_slices_Clone_api_Event_api_Event) <| ins n_dma_Dma_move (.code f_dma_Dma_move) <| ins n_disk_Disk_do (.code f_disk_Disk_do) <| ins n_pianolaref2_Ram_Bytes (.code f_pianolaref2_Ram_Bytes) <| ins n_pianolaref2_Ram_Put (.code f_pianolaref2_Ram_Put) <| ins n_wheel_Wheel_Arm (.code f_wheel_Wheel_Arm) <| ins n_wheel_Wheel_find (.code f_wheel_Wheel_find) <| ins n_disk_Disk_Sectors (.code f_disk_Disk_Sectors) <| ins n_slices_SortStableFunc_api_Event_api_Event (.code f_slices_SortStableFunc_api_Event_api_Event) <| ins n_wheel_Wheel_Arm_1 (.code f_wheel_Wheel_Arm_1) <| ins n_cmp_Compare_int64 (.code f_cmp_Compare_int64) <| ins n_slices_IndexFunc_api_Event_api_Event (.code f_slices_IndexFunc_api_Event_api_Event) <| ins n_wheel_Wheel_find_1 (.code f_wheel_Wheel_find_1) <| ins n_slices_stableCmpFunc_api_Event (.code f_slices_stableCmpFunc_api_Event) <| ins n_cmp_isNaN_int64 (.code f_cmp_isNaN_int64) <| ins n_slices_insertionSortCmpFunc_api_Event (.code f_slices_insertionSortCmpFunc_api_Event) <| ins n_slices_symMergeCmpFunc_api_Event (.code f_slices_symMergeCmpFunc_api_Event) <| ins n_slices_rotateCmpFunc_api_Event (.code f_slices_rotateCmpFunc_api_Event) <| ins n_slices_swapRangeCmpFunc_api_Event (.code f_slices_swapRangeCmpFunc_api_Event) <| fun _ => none
theorem T_uart_take : T n_uart_take = some (.spec sTake) := rfl
theorem T_uart_put : T n_uart_put = some (.spec sPut) := rfl
theorem T_pianolalaw15_BusNumbers : T n_pianolalaw15_BusNumbers = some (.code f_pianolalaw15_BusNumbers) := rfl
theorem T_bus_New : T n_bus_New = some (.code f_bus_New) := rfl
theorem T_pianolaref15_New : T n_pianolaref15_New = some (.code f_pianolaref15_New) := rfl
theorem T_bus_Bus_Load : T n_bus_Bus_Load = some (.code f_bus_Bus_Load) := rfl
theorem T_pianolaref15_Bus_Load : T n_pianolaref15_Bus_Load = some (.code f_pianolaref15_Bus_Load) := rfl
theorem T_bus_Bus_Store : T n_bus_Bus_Store = some (.code f_bus_Bus_Store) := rfl
theorem T_pianolaref15_Bus_Store : T n_pianolaref15_Bus_Store = some (.code f_pianolaref15_Bus_Store) := rfl
theorem T_pianolalaw15_same : T n_pianolalaw15_same = some (.code f_pianolalaw15_same) := rfl
theorem T_bus_Bus_Fire : T n_bus_Bus_Fire = some (.code f_bus_Bus_Fire) := rfl
theorem T_pianolaref15_Bus_Fire : T n_pianolaref15_Bus_Fire = some (.code f_pianolaref15_Bus_Fire) := rfl
theorem T_pianolalaw15_known : T n_pianolalaw15_known = some (.code f_pianolalaw15_known) := rfl
theorem T_ram_New : T n_ram_New = some (.code f_ram_New) := rfl
theorem T_wheel_New : T n_wheel_New = some (.code f_wheel_New) := rfl
theorem T_ram_Ram_Put : T n_ram_Ram_Put = some (.code f_ram_Ram_Put) := rfl
theorem T_ram_Ram_Size : T n_ram_Ram_Size = some (.code f_ram_Ram_Size) := rfl
theorem T_lines_New : T n_lines_New = some (.code f_lines_New) := rfl
theorem T_timer_New : T n_timer_New = some (.code f_timer_New) := rfl
theorem T_uart_New : T n_uart_New = some (.code f_uart_New) := rfl
theorem T_dma_New : T n_dma_New = some (.code f_dma_New) := rfl
theorem T_disk_New : T n_disk_New = some (.code f_disk_New) := rfl
theorem T_pianolaref2_New : T n_pianolaref2_New = some (.code f_pianolaref2_New) := rfl
theorem T_ram_Ram_Load : T n_ram_Ram_Load = some (.code f_ram_Ram_Load) := rfl
theorem T_bus_window : T n_bus_window = some (.code f_bus_window) := rfl
theorem T_bus_Bus_read : T n_bus_Bus_read = some (.code f_bus_Bus_read) := rfl
theorem T_bus_Bus_gather : T n_bus_Bus_gather = some (.code f_bus_Bus_gather) := rfl
theorem T_pianolaref2_Ram_Load : T n_pianolaref2_Ram_Load = some (.code f_pianolaref2_Ram_Load) := rfl
theorem T_pianolaref15_where : T n_pianolaref15_where = some (.code f_pianolaref15_where) := rfl
theorem T_pianolaref15_Bus_Word : T n_pianolaref15_Bus_Word = some (.code f_pianolaref15_Bus_Word) := rfl
theorem T_pianolaref15_Bus_gather : T n_pianolaref15_Bus_gather = some (.code f_pianolaref15_Bus_gather) := rfl
theorem T_ram_Ram_Store : T n_ram_Ram_Store = some (.code f_ram_Ram_Store) := rfl
theorem T_bus_Bus_write : T n_bus_Bus_write = some (.code f_bus_Bus_write) := rfl
theorem T_pianolaref2_Ram_Store : T n_pianolaref2_Ram_Store = some (.code f_pianolaref2_Ram_Store) := rfl
theorem T_pianolaref15_Bus_Set : T n_pianolaref15_Bus_Set = some (.code f_pianolaref15_Bus_Set) := rfl
theorem T_bus_Bus_Next : T n_bus_Bus_Next = some (.code f_bus_Bus_Next) := rfl
theorem T_pianolaref15_Bus_Next : T n_pianolaref15_Bus_Next = some (.code f_pianolaref15_Bus_Next) := rfl
theorem T_bus_Bus_Raised : T n_bus_Bus_Raised = some (.code f_bus_Bus_Raised) := rfl
theorem T_pianolaref15_Bus_Raised : T n_pianolaref15_Bus_Raised = some (.code f_pianolaref15_Bus_Raised) := rfl
theorem T_pianolabook_Same_api_Event : T n_pianolabook_Same_api_Event = some (.code f_pianolabook_Same_api_Event) := rfl
theorem T_bus_Bus_Events : T n_bus_Bus_Events = some (.code f_bus_Bus_Events) := rfl
theorem T_bus_Bus_Out : T n_bus_Bus_Out = some (.code f_bus_Bus_Out) := rfl
theorem T_bus_Bus_Disk : T n_bus_Bus_Disk = some (.code f_bus_Bus_Disk) := rfl
theorem T_wheel_Wheel_Take : T n_wheel_Wheel_Take = some (.code f_wheel_Wheel_Take) := rfl
theorem T_bus_Bus_fire : T n_bus_Bus_fire = some (.code f_bus_Bus_fire) := rfl
theorem T_pianolaref9_Wheel_Take : T n_pianolaref9_Wheel_Take = some (.code f_pianolaref9_Wheel_Take) := rfl
theorem T_pianolaref15_Bus_B1 : T n_pianolaref15_Bus_B1 = some (.code f_pianolaref15_Bus_B1) := rfl
theorem T_bus_Bus_Ram : T n_bus_Bus_Ram = some (.code f_bus_Bus_Ram) := rfl
theorem T_pianolabook_Within : T n_pianolabook_Within = some (.code f_pianolabook_Within) := rfl
theorem T_ram_Ram_Bytes : T n_ram_Ram_Bytes = some (.code f_ram_Ram_Bytes) := rfl
theorem T_ram_Ram_there : T n_ram_Ram_there = some (.code f_ram_Ram_there) := rfl
theorem T_ram_Ram_touch : T n_ram_Ram_touch = some (.code f_ram_Ram_touch) := rfl
theorem T_ram_Ram_even : T n_ram_Ram_even = some (.code f_ram_Ram_even) := rfl
theorem T_lines_Lines_Read : T n_lines_Lines_Read = some (.code f_lines_Lines_Read) := rfl
theorem T_timer_Timer_Read : T n_timer_Timer_Read = some (.code f_timer_Timer_Read) := rfl
theorem T_uart_Uart_Read : T n_uart_Uart_Read = some (.code f_uart_Uart_Read) := rfl
theorem T_dma_Dma_Read : T n_dma_Dma_Read = some (.code f_dma_Dma_Read) := rfl
theorem T_disk_Disk_Read : T n_disk_Disk_Read = some (.code f_disk_Disk_Read) := rfl
theorem T_lines_Lines_Set : T n_lines_Lines_Set = some (.code f_lines_Lines_Set) := rfl
theorem T_bus_Bus_line : T n_bus_Bus_line = some (.code f_bus_Bus_line) := rfl
theorem T_pianolaref2_Ram_In : T n_pianolaref2_Ram_In = some (.code f_pianolaref2_Ram_In) := rfl
theorem T_pianolaref15_bit : T n_pianolaref15_bit = some (.code f_pianolaref15_bit) := rfl
theorem T_pianolaref15_Bus_Line : T n_pianolaref15_Bus_Line = some (.code f_pianolaref15_Bus_Line) := rfl
theorem T_lines_Lines_Write : T n_lines_Lines_Write = some (.code f_lines_Lines_Write) := rfl
theorem T_timer_Timer_Write : T n_timer_Timer_Write = some (.code f_timer_Timer_Write) := rfl
theorem T_uart_Uart_Write : T n_uart_Uart_Write = some (.code f_uart_Uart_Write) := rfl
theorem T_dma_Dma_Write : T n_dma_Dma_Write = some (.code f_dma_Dma_Write) := rfl
theorem T_disk_Disk_Write : T n_disk_Disk_Write = some (.code f_disk_Disk_Write) := rfl
theorem T_pianolaref2_Ram_touch : T n_pianolaref2_Ram_touch = some (.code f_pianolaref2_Ram_touch) := rfl
theorem T_pianolaref15_Bus_timer : T n_pianolaref15_Bus_timer = some (.code f_pianolaref15_Bus_timer) := rfl
theorem T_pianolaref15_Bus_uart : T n_pianolaref15_Bus_uart = some (.code f_pianolaref15_Bus_uart) := rfl
theorem T_pianolaref15_Bus_dma : T n_pianolaref15_Bus_dma = some (.code f_pianolaref15_Bus_dma) := rfl
theorem T_pianolaref15_Bus_disk : T n_pianolaref15_Bus_disk = some (.code f_pianolaref15_Bus_disk) := rfl
theorem T_wheel_Wheel_Next : T n_wheel_Wheel_Next = some (.code f_wheel_Wheel_Next) := rfl
theorem T_lines_Lines_Raised : T n_lines_Lines_Raised = some (.code f_lines_Lines_Raised) := rfl
theorem T_wheel_Wheel_All : T n_wheel_Wheel_All = some (.code f_wheel_Wheel_All) := rfl
theorem T_uart_Uart_Out : T n_uart_Uart_Out = some (.code f_uart_Uart_Out) := rfl
theorem T_disk_Disk_Bytes : T n_disk_Disk_Bytes = some (.code f_disk_Disk_Bytes) := rfl
theorem T_slices_Delete_api_Event_api_Event : T n_slices_Delete_api_Event_api_Event = some (.code f_slices_Delete_api_Event_api_Event) := rfl
theorem T_timer_Timer_Fire : T n_timer_Timer_Fire = some (.code f_timer_Timer_Fire) := rfl
theorem T_uart_Uart_Fire : T n_uart_Uart_Fire = some (.code f_uart_Uart_Fire) := rfl
theorem T_dma_Dma_Fire : T n_dma_Dma_Fire = some (.code f_dma_Dma_Fire) := rfl
theorem T_disk_Disk_Fire : T n_disk_Disk_Fire = some (.code f_disk_Disk_Fire) := rfl
theorem T_pianolaref9_Wheel_Arm : T n_pianolaref9_Wheel_Arm = some (.code f_pianolaref9_Wheel_Arm) := rfl
theorem T_pianolaref15_Bus_move : T n_pianolaref15_Bus_move = some (.code f_pianolaref15_Bus_move) := rfl
theorem T_pianolaref15_Bus_sector : T n_pianolaref15_Bus_sector = some (.code f_pianolaref15_Bus_sector) := rfl
theorem T_slices_Clone_byte_byte : T n_slices_Clone_byte_byte = some (.code f_slices_Clone_byte_byte) := rfl
theorem T_uart_bit : T n_uart_bit = some (.code f_uart_bit) := rfl
theorem T_timer_Timer_Line : T n_timer_Timer_Line = some (.code f_timer_Timer_Line) := rfl
theorem T_uart_Uart_Line : T n_uart_Uart_Line = some (.code f_uart_Uart_Line) := rfl
theorem T_dma_Dma_Line : T n_dma_Dma_Line = some (.code f_dma_Dma_Line) := rfl
theorem T_disk_Disk_Line : T n_disk_Disk_Line = some (.code f_disk_Disk_Line) := rfl
theorem T_timer_Timer_arm : T n_timer_Timer_arm = some (.code f_timer_Timer_arm) := rfl
theorem T_wheel_Wheel_Cancel : T n_wheel_Wheel_Cancel = some (.code f_wheel_Wheel_Cancel) := rfl
theorem T_uart_Uart_arm : T n_uart_Uart_arm = some (.code f_uart_Uart_arm) := rfl
theorem T_dma_Dma_begin : T n_dma_Dma_begin = some (.code f_dma_Dma_begin) := rfl
theorem T_disk_Disk_begin : T n_disk_Disk_begin = some (.code f_disk_Disk_begin) := rfl
theorem T_pianolaref9_Wheel_Cancel : T n_pianolaref9_Wheel_Cancel = some (.code f_pianolaref9_Wheel_Cancel) := rfl
theorem T_slices_Clone_api_Event_api_Event : T n_slices_Clone_api_Event_api_Event = some (.code f_slices_Clone_api_Event_api_Event) := rfl
theorem T_dma_Dma_move : T n_dma_Dma_move = some (.code f_dma_Dma_move) := rfl
theorem T_disk_Disk_do : T n_disk_Disk_do = some (.code f_disk_Disk_do) := rfl
theorem T_pianolaref2_Ram_Bytes : T n_pianolaref2_Ram_Bytes = some (.code f_pianolaref2_Ram_Bytes) := rfl
theorem T_pianolaref2_Ram_Put : T n_pianolaref2_Ram_Put = some (.code f_pianolaref2_Ram_Put) := rfl
theorem T_wheel_Wheel_Arm : T n_wheel_Wheel_Arm = some (.code f_wheel_Wheel_Arm) := rfl
theorem T_wheel_Wheel_find : T n_wheel_Wheel_find = some (.code f_wheel_Wheel_find) := rfl
theorem T_disk_Disk_Sectors : T n_disk_Disk_Sectors = some (.code f_disk_Disk_Sectors) := rfl
theorem T_slices_SortStableFunc_api_Event_api_Event : T n_slices_SortStableFunc_api_Event_api_Event = some (.code f_slices_SortStableFunc_api_Event_api_Event) := rfl
theorem T_wheel_Wheel_Arm_1 : T n_wheel_Wheel_Arm_1 = some (.code f_wheel_Wheel_Arm_1) := rfl
theorem T_cmp_Compare_int64 : T n_cmp_Compare_int64 = some (.code f_cmp_Compare_int64) := rfl
theorem T_slices_IndexFunc_api_Event_api_Event : T n_slices_IndexFunc_api_Event_api_Event = some (.code f_slices_IndexFunc_api_Event_api_Event) := rfl
theorem T_wheel_Wheel_find_1 : T n_wheel_Wheel_find_1 = some (.code f_wheel_Wheel_find_1) := rfl
theorem T_slices_stableCmpFunc_api_Event : T n_slices_stableCmpFunc_api_Event = some (.code f_slices_stableCmpFunc_api_Event) := rfl
theorem T_cmp_isNaN_int64 : T n_cmp_isNaN_int64 = some (.code f_cmp_isNaN_int64) := rfl
theorem T_slices_insertionSortCmpFunc_api_Event : T n_slices_insertionSortCmpFunc_api_Event = some (.code f_slices_insertionSortCmpFunc_api_Event) := rfl
theorem T_slices_symMergeCmpFunc_api_Event : T n_slices_symMergeCmpFunc_api_Event = some (.code f_slices_symMergeCmpFunc_api_Event) := rfl
theorem T_slices_rotateCmpFunc_api_Event : T n_slices_rotateCmpFunc_api_Event = some (.code f_slices_rotateCmpFunc_api_Event) := rfl
theorem T_slices_swapRangeCmpFunc_api_Event : T n_slices_swapRangeCmpFunc_api_Event = some (.code f_slices_swapRangeCmpFunc_api_Event) := rfl
section
variable {h : Hp} {q : Value → Hp → Prop} {l : List Value}
@[simp] def g0_pianolalaw15_BusNumbers := G_unf c0_pianolalaw15_BusNumbers.eq_1
@[simp] def g1_pianolalaw15_BusNumbers := G_unf c1_pianolalaw15_BusNumbers.eq_1
@[simp] def g2_pianolalaw15_BusNumbers := G_unf c2_pianolalaw15_BusNumbers.eq_1
@[simp] def g3_pianolalaw15_BusNumbers := G_unf c3_pianolalaw15_BusNumbers.eq_1
@[simp] def g4_pianolalaw15_BusNumbers := G_unf c4_pianolalaw15_BusNumbers.eq_1
@[simp] def g5_pianolalaw15_BusNumbers := G_unf c5_pianolalaw15_BusNumbers.eq_1
@[simp] def g6_pianolalaw15_BusNumbers := G_unf c6_pianolalaw15_BusNumbers.eq_1
@[simp] def g7_pianolalaw15_BusNumbers := G_unf c7_pianolalaw15_BusNumbers.eq_1
@[simp] def g8_pianolalaw15_BusNumbers := G_unf c8_pianolalaw15_BusNumbers.eq_1
@[simp] def g9_pianolalaw15_BusNumbers := G_unf c9_pianolalaw15_BusNumbers.eq_1
@[simp] def g10_pianolalaw15_BusNumbers := G_unf c10_pianolalaw15_BusNumbers.eq_1
@[simp] def g11_pianolalaw15_BusNumbers := G_unf c11_pianolalaw15_BusNumbers.eq_1
@[simp] def g12_pianolalaw15_BusNumbers := G_unf c12_pianolalaw15_BusNumbers.eq_1
@[simp] def g13_pianolalaw15_BusNumbers := G_unf c13_pianolalaw15_BusNumbers.eq_1
@[simp] def g14_pianolalaw15_BusNumbers := G_unf c14_pianolalaw15_BusNumbers.eq_1
@[simp] def g_pianolalaw15_BusNumbers := G_unf c_pianolalaw15_BusNumbers.eq_1
theorem w_pianolalaw15_BusNumbers : WC T n_pianolalaw15_BusNumbers l h q ↔ G T (fin [.t 0] (some []) h.next q) c_pianolalaw15_BusNumbers [] (envOf l) h := WC_G T_pianolalaw15_BusNumbers
@[simp] def g0_bus_New := G_unf c0_bus_New.eq_1
@[simp] def g1_bus_New := G_unf c1_bus_New.eq_1
@[simp] def g_bus_New := G_unf c_bus_New.eq_1
theorem w_bus_New : WC T n_bus_New l h q ↔ G T (fin [.t 6] (some []) h.next q) c_bus_New [] (envOf l) h := WC_G T_bus_New
@[simp] def g0_pianolaref15_New := G_unf c0_pianolaref15_New.eq_1
@[simp] def g1_pianolaref15_New := G_unf c1_pianolaref15_New.eq_1
@[simp] def g2_pianolaref15_New := G_unf c2_pianolaref15_New.eq_1
@[simp] def g3_pianolaref15_New := G_unf c3_pianolaref15_New.eq_1
@[simp] def g4_pianolaref15_New := G_unf c4_pianolaref15_New.eq_1
@[simp] def g_pianolaref15_New := G_unf c_pianolaref15_New.eq_1
theorem w_pianolaref15_New : WC T n_pianolaref15_New l h q ↔ G T (fin [.t 6] (some []) h.next q) c_pianolaref15_New [] (envOf l) h := WC_G T_pianolaref15_New
@[simp] def g0_bus_Bus_Load := G_unf c0_bus_Bus_Load.eq_1
@[simp] def g1_bus_Bus_Load := G_unf c1_bus_Bus_Load.eq_1
@[simp] def g2_bus_Bus_Load := G_unf c2_bus_Bus_Load.eq_1
@[simp] def g3_bus_Bus_Load := G_unf c3_bus_Bus_Load.eq_1
@[simp] def g_bus_Bus_Load := G_unf c_bus_Bus_Load.eq_1
theorem w_bus_Bus_Load : WC T n_bus_Bus_Load l h q ↔ G T (fin [.t 8, .t 9] (some []) h.next q) c_bus_Bus_Load [] (envOf l) h := WC_G T_bus_Bus_Load
@[simp] def g0_pianolaref15_Bus_Load := G_unf c0_pianolaref15_Bus_Load.eq_1
@[simp] def g1_pianolaref15_Bus_Load := G_unf c1_pianolaref15_Bus_Load.eq_1
@[simp] def g2_pianolaref15_Bus_Load := G_unf c2_pianolaref15_Bus_Load.eq_1
@[simp] def g3_pianolaref15_Bus_Load := G_unf c3_pianolaref15_Bus_Load.eq_1
@[simp] def g_pianolaref15_Bus_Load := G_unf c_pianolaref15_Bus_Load.eq_1
theorem w_pianolaref15_Bus_Load : WC T n_pianolaref15_Bus_Load l h q ↔ G T (fin [.t 8, .t 9] (some []) h.next q) c_pianolaref15_Bus_Load [] (envOf l) h := WC_G T_pianolaref15_Bus_Load
@[simp] def g0_bus_Bus_Store := G_unf c0_bus_Bus_Store.eq_1
@[simp] def g1_bus_Bus_Store := G_unf c1_bus_Bus_Store.eq_1
@[simp] def g2_bus_Bus_Store := G_unf c2_bus_Bus_Store.eq_1
@[simp] def g3_bus_Bus_Store := G_unf c3_bus_Bus_Store.eq_1
@[simp] def g_bus_Bus_Store := G_unf c_bus_Bus_Store.eq_1
theorem w_bus_Bus_Store : WC T n_bus_Bus_Store l h q ↔ G T (fin [.t 10] (some []) h.next q) c_bus_Bus_Store [] (envOf l) h := WC_G T_bus_Bus_Store
@[simp] def g0_pianolaref15_Bus_Store := G_unf c0_pianolaref15_Bus_Store.eq_1
@[simp] def g1_pianolaref15_Bus_Store := G_unf c1_pianolaref15_Bus_Store.eq_1
@[simp] def g2_pianolaref15_Bus_Store := G_unf c2_pianolaref15_Bus_Store.eq_1
@[simp] def g3_pianolaref15_Bus_Store := G_unf c3_pianolaref15_Bus_Store.eq_1
@[simp] def g_pianolaref15_Bus_Store := G_unf c_pianolaref15_Bus_Store.eq_1
theorem w_pianolaref15_Bus_Store : WC T n_pianolaref15_Bus_Store l h q ↔ G T (fin [.t 10] (some []) h.next q) c_pianolaref15_Bus_Store [] (envOf l) h := WC_G T_pianolaref15_Bus_Store
@[simp] def g0_pianolalaw15_same := G_unf c0_pianolalaw15_same.eq_1
@[simp] def g1_pianolalaw15_same := G_unf c1_pianolalaw15_same.eq_1
@[simp] def g_pianolalaw15_same := G_unf c_pianolalaw15_same.eq_1
theorem w_pianolalaw15_same : WC T n_pianolalaw15_same l h q ↔ G T (fin [.t 4] (some []) h.next q) c_pianolalaw15_same [] (envOf l) h := WC_G T_pianolalaw15_same
@[simp] def g0_bus_Bus_Fire := G_unf c0_bus_Bus_Fire.eq_1
@[simp] def g1_bus_Bus_Fire := G_unf c1_bus_Bus_Fire.eq_1
@[simp] def g2_bus_Bus_Fire := G_unf c2_bus_Bus_Fire.eq_1
@[simp] def g_bus_Bus_Fire := G_unf c_bus_Bus_Fire.eq_1
theorem w_bus_Bus_Fire : WC T n_bus_Bus_Fire l h q ↔ G T (fin [.t 4] (some []) h.next q) c_bus_Bus_Fire [] (envOf l) h := WC_G T_bus_Bus_Fire
@[simp] def g0_pianolaref15_Bus_Fire := G_unf c0_pianolaref15_Bus_Fire.eq_1
@[simp] def g1_pianolaref15_Bus_Fire := G_unf c1_pianolaref15_Bus_Fire.eq_1
@[simp] def g2_pianolaref15_Bus_Fire := G_unf c2_pianolaref15_Bus_Fire.eq_1
@[simp] def g_pianolaref15_Bus_Fire := G_unf c_pianolaref15_Bus_Fire.eq_1
theorem w_pianolaref15_Bus_Fire : WC T n_pianolaref15_Bus_Fire l h q ↔ G T (fin [.t 4] (some []) h.next q) c_pianolaref15_Bus_Fire [] (envOf l) h := WC_G T_pianolaref15_Bus_Fire
@[simp] def g0_pianolalaw15_known := G_unf c0_pianolalaw15_known.eq_1
@[simp] def g1_pianolalaw15_known := G_unf c1_pianolalaw15_known.eq_1
@[simp] def g2_pianolalaw15_known := G_unf c2_pianolalaw15_known.eq_1
@[simp] def g3_pianolalaw15_known := G_unf c3_pianolalaw15_known.eq_1
@[simp] def g4_pianolalaw15_known := G_unf c4_pianolalaw15_known.eq_1
@[simp] def g_pianolalaw15_known := G_unf c_pianolalaw15_known.eq_1
theorem w_pianolalaw15_known : WC T n_pianolalaw15_known l h q ↔ G T (fin [.t 0] (some []) h.next q) c_pianolalaw15_known [] (envOf l) h := WC_G T_pianolalaw15_known
@[simp] def g0_ram_New := G_unf c0_ram_New.eq_1
@[simp] def g_ram_New := G_unf c_ram_New.eq_1
theorem w_ram_New : WC T n_ram_New l h q ↔ G T (fin [.t 2] (some []) h.next q) c_ram_New [] (envOf l) h := WC_G T_ram_New
@[simp] def g_wheel_New := G_unf c_wheel_New.eq_1
theorem w_wheel_New : WC T n_wheel_New l h q ↔ G T (fin [.t 0] (some []) h.next q) c_wheel_New [] (envOf l) h := WC_G T_wheel_New
@[simp] def g0_ram_Ram_Put := G_unf c0_ram_Ram_Put.eq_1
@[simp] def g1_ram_Ram_Put := G_unf c1_ram_Ram_Put.eq_1
@[simp] def g_ram_Ram_Put := G_unf c_ram_Ram_Put.eq_1
theorem w_ram_Ram_Put : WC T n_ram_Ram_Put l h q ↔ G T (fin [.t 6] (some []) h.next q) c_ram_Ram_Put [] (envOf l) h := WC_G T_ram_Ram_Put
@[simp] def g_ram_Ram_Size := G_unf c_ram_Ram_Size.eq_1
theorem w_ram_Ram_Size : WC T n_ram_Ram_Size l h q ↔ G T (fin [.t 2] (some []) h.next q) c_ram_Ram_Size [] (envOf l) h := WC_G T_ram_Ram_Size
@[simp] def g_lines_New := G_unf c_lines_New.eq_1
theorem w_lines_New : WC T n_lines_New l h q ↔ G T (fin [.t 0] (some []) h.next q) c_lines_New [] (envOf l) h := WC_G T_lines_New
@[simp] def g0_timer_New := G_unf c0_timer_New.eq_1
@[simp] def g_timer_New := G_unf c_timer_New.eq_1
theorem w_timer_New : WC T n_timer_New l h q ↔ G T (fin [.t 4] (some []) h.next q) c_timer_New [] (envOf l) h := WC_G T_timer_New
@[simp] def g0_uart_New := G_unf c0_uart_New.eq_1
@[simp] def g_uart_New := G_unf c_uart_New.eq_1
theorem w_uart_New : WC T n_uart_New l h q ↔ G T (fin [.t 4] (some []) h.next q) c_uart_New [] (envOf l) h := WC_G T_uart_New
@[simp] def g0_dma_New := G_unf c0_dma_New.eq_1
@[simp] def g1_dma_New := G_unf c1_dma_New.eq_1
@[simp] def g_dma_New := G_unf c_dma_New.eq_1
theorem w_dma_New : WC T n_dma_New l h q ↔ G T (fin [.t 6] (some []) h.next q) c_dma_New [] (envOf l) h := WC_G T_dma_New
@[simp] def g0_disk_New := G_unf c0_disk_New.eq_1
@[simp] def g1_disk_New := G_unf c1_disk_New.eq_1
@[simp] def g2_disk_New := G_unf c2_disk_New.eq_1
@[simp] def g3_disk_New := G_unf c3_disk_New.eq_1
@[simp] def g_disk_New := G_unf c_disk_New.eq_1
theorem w_disk_New : WC T n_disk_New l h q ↔ G T (fin [.t 8] (some []) h.next q) c_disk_New [] (envOf l) h := WC_G T_disk_New
@[simp] def g0_pianolaref2_New := G_unf c0_pianolaref2_New.eq_1
@[simp] def g_pianolaref2_New := G_unf c_pianolaref2_New.eq_1
theorem w_pianolaref2_New : WC T n_pianolaref2_New l h q ↔ G T (fin [.t 2] (some []) h.next q) c_pianolaref2_New [] (envOf l) h := WC_G T_pianolaref2_New
@[simp] def g0_ram_Ram_Load := G_unf c0_ram_Ram_Load.eq_1
@[simp] def g1_ram_Ram_Load := G_unf c1_ram_Ram_Load.eq_1
@[simp] def g2_ram_Ram_Load := G_unf c2_ram_Ram_Load.eq_1
@[simp] def g3_ram_Ram_Load := G_unf c3_ram_Ram_Load.eq_1
@[simp] def g_ram_Ram_Load := G_unf c_ram_Ram_Load.eq_1
theorem w_ram_Ram_Load : WC T n_ram_Ram_Load l h q ↔ G T (fin [.t 6, .t 7] (some []) h.next q) c_ram_Ram_Load [] (envOf l) h := WC_G T_ram_Ram_Load
@[simp] def g0_bus_window := G_unf c0_bus_window.eq_1
@[simp] def g1_bus_window := G_unf c1_bus_window.eq_1
@[simp] def g_bus_window := G_unf c_bus_window.eq_1
theorem w_bus_window : WC T n_bus_window l h q ↔ G T (fin [.t 4, .t 5, .t 6] (some []) h.next q) c_bus_window [] (envOf l) h := WC_G T_bus_window
@[simp] def g0_bus_Bus_read := G_unf c0_bus_Bus_read.eq_1
@[simp] def g1_bus_Bus_read := G_unf c1_bus_Bus_read.eq_1
@[simp] def g2_bus_Bus_read := G_unf c2_bus_Bus_read.eq_1
@[simp] def g3_bus_Bus_read := G_unf c3_bus_Bus_read.eq_1
@[simp] def g4_bus_Bus_read := G_unf c4_bus_Bus_read.eq_1
@[simp] def g5_bus_Bus_read := G_unf c5_bus_Bus_read.eq_1
@[simp] def g6_bus_Bus_read := G_unf c6_bus_Bus_read.eq_1
@[simp] def g7_bus_Bus_read := G_unf c7_bus_Bus_read.eq_1
@[simp] def g_bus_Bus_read := G_unf c_bus_Bus_read.eq_1
theorem w_bus_Bus_read : WC T n_bus_Bus_read l h q ↔ G T (fin [.t 8, .t 9] (some []) h.next q) c_bus_Bus_read [] (envOf l) h := WC_G T_bus_Bus_read
@[simp] def g0_bus_Bus_gather := G_unf c0_bus_Bus_gather.eq_1
@[simp] def g1_bus_Bus_gather := G_unf c1_bus_Bus_gather.eq_1
@[simp] def g_bus_Bus_gather := G_unf c_bus_Bus_gather.eq_1
theorem w_bus_Bus_gather : WC T n_bus_Bus_gather l h q ↔ G T (fin [] (some []) h.next q) c_bus_Bus_gather [] (envOf l) h := WC_G T_bus_Bus_gather
@[simp] def g0_pianolaref2_Ram_Load := G_unf c0_pianolaref2_Ram_Load.eq_1
@[simp] def g1_pianolaref2_Ram_Load := G_unf c1_pianolaref2_Ram_Load.eq_1
@[simp] def g2_pianolaref2_Ram_Load := G_unf c2_pianolaref2_Ram_Load.eq_1
@[simp] def g_pianolaref2_Ram_Load := G_unf c_pianolaref2_Ram_Load.eq_1
theorem w_pianolaref2_Ram_Load : WC T n_pianolaref2_Ram_Load l h q ↔ G T (fin [.t 6, .t 7] (some []) h.next q) c_pianolaref2_Ram_Load [] (envOf l) h := WC_G T_pianolaref2_Ram_Load
@[simp] def g0_pianolaref15_where := G_unf c0_pianolaref15_where.eq_1
@[simp] def g1_pianolaref15_where := G_unf c1_pianolaref15_where.eq_1
@[simp] def g_pianolaref15_where := G_unf c_pianolaref15_where.eq_1
theorem w_pianolaref15_where : WC T n_pianolaref15_where l h q ↔ G T (fin [.t 4, .t 5, .t 6] (some []) h.next q) c_pianolaref15_where [] (envOf l) h := WC_G T_pianolaref15_where
@[simp] def g0_pianolaref15_Bus_Word := G_unf c0_pianolaref15_Bus_Word.eq_1
@[simp] def g1_pianolaref15_Bus_Word := G_unf c1_pianolaref15_Bus_Word.eq_1
@[simp] def g2_pianolaref15_Bus_Word := G_unf c2_pianolaref15_Bus_Word.eq_1
@[simp] def g3_pianolaref15_Bus_Word := G_unf c3_pianolaref15_Bus_Word.eq_1
@[simp] def g4_pianolaref15_Bus_Word := G_unf c4_pianolaref15_Bus_Word.eq_1
@[simp] def g5_pianolaref15_Bus_Word := G_unf c5_pianolaref15_Bus_Word.eq_1
@[simp] def g6_pianolaref15_Bus_Word := G_unf c6_pianolaref15_Bus_Word.eq_1
@[simp] def g7_pianolaref15_Bus_Word := G_unf c7_pianolaref15_Bus_Word.eq_1
@[simp] def g8_pianolaref15_Bus_Word := G_unf c8_pianolaref15_Bus_Word.eq_1
@[simp] def g9_pianolaref15_Bus_Word := G_unf c9_pianolaref15_Bus_Word.eq_1
@[simp] def g10_pianolaref15_Bus_Word := G_unf c10_pianolaref15_Bus_Word.eq_1
@[simp] def g11_pianolaref15_Bus_Word := G_unf c11_pianolaref15_Bus_Word.eq_1
@[simp] def g12_pianolaref15_Bus_Word := G_unf c12_pianolaref15_Bus_Word.eq_1
@[simp] def g_pianolaref15_Bus_Word := G_unf c_pianolaref15_Bus_Word.eq_1
theorem w_pianolaref15_Bus_Word : WC T n_pianolaref15_Bus_Word l h q ↔ G T (fin [.t 8, .t 9] (some []) h.next q) c_pianolaref15_Bus_Word [] (envOf l) h := WC_G T_pianolaref15_Bus_Word
@[simp] def g0_pianolaref15_Bus_gather := G_unf c0_pianolaref15_Bus_gather.eq_1
@[simp] def g1_pianolaref15_Bus_gather := G_unf c1_pianolaref15_Bus_gather.eq_1
@[simp] def g_pianolaref15_Bus_gather := G_unf c_pianolaref15_Bus_gather.eq_1
theorem w_pianolaref15_Bus_gather : WC T n_pianolaref15_Bus_gather l h q ↔ G T (fin [] (some []) h.next q) c_pianolaref15_Bus_gather [] (envOf l) h := WC_G T_pianolaref15_Bus_gather
@[simp] def g0_ram_Ram_Store := G_unf c0_ram_Ram_Store.eq_1
@[simp] def g1_ram_Ram_Store := G_unf c1_ram_Ram_Store.eq_1
@[simp] def g2_ram_Ram_Store := G_unf c2_ram_Ram_Store.eq_1
@[simp] def g3_ram_Ram_Store := G_unf c3_ram_Ram_Store.eq_1
@[simp] def g_ram_Ram_Store := G_unf c_ram_Ram_Store.eq_1
theorem w_ram_Ram_Store : WC T n_ram_Ram_Store l h q ↔ G T (fin [.t 8] (some []) h.next q) c_ram_Ram_Store [] (envOf l) h := WC_G T_ram_Ram_Store
@[simp] def g0_bus_Bus_write := G_unf c0_bus_Bus_write.eq_1
@[simp] def g1_bus_Bus_write := G_unf c1_bus_Bus_write.eq_1
@[simp] def g2_bus_Bus_write := G_unf c2_bus_Bus_write.eq_1
@[simp] def g3_bus_Bus_write := G_unf c3_bus_Bus_write.eq_1
@[simp] def g4_bus_Bus_write := G_unf c4_bus_Bus_write.eq_1
@[simp] def g5_bus_Bus_write := G_unf c5_bus_Bus_write.eq_1
@[simp] def g6_bus_Bus_write := G_unf c6_bus_Bus_write.eq_1
@[simp] def g_bus_Bus_write := G_unf c_bus_Bus_write.eq_1
theorem w_bus_Bus_write : WC T n_bus_Bus_write l h q ↔ G T (fin [.t 10] (some []) h.next q) c_bus_Bus_write [] (envOf l) h := WC_G T_bus_Bus_write
@[simp] def g0_pianolaref2_Ram_Store := G_unf c0_pianolaref2_Ram_Store.eq_1
@[simp] def g1_pianolaref2_Ram_Store := G_unf c1_pianolaref2_Ram_Store.eq_1
@[simp] def g2_pianolaref2_Ram_Store := G_unf c2_pianolaref2_Ram_Store.eq_1
@[simp] def g3_pianolaref2_Ram_Store := G_unf c3_pianolaref2_Ram_Store.eq_1
@[simp] def g_pianolaref2_Ram_Store := G_unf c_pianolaref2_Ram_Store.eq_1
theorem w_pianolaref2_Ram_Store : WC T n_pianolaref2_Ram_Store l h q ↔ G T (fin [.t 8] (some []) h.next q) c_pianolaref2_Ram_Store [] (envOf l) h := WC_G T_pianolaref2_Ram_Store
@[simp] def g0_pianolaref15_Bus_Set := G_unf c0_pianolaref15_Bus_Set.eq_1
@[simp] def g1_pianolaref15_Bus_Set := G_unf c1_pianolaref15_Bus_Set.eq_1
@[simp] def g2_pianolaref15_Bus_Set := G_unf c2_pianolaref15_Bus_Set.eq_1
@[simp] def g3_pianolaref15_Bus_Set := G_unf c3_pianolaref15_Bus_Set.eq_1
@[simp] def g4_pianolaref15_Bus_Set := G_unf c4_pianolaref15_Bus_Set.eq_1
@[simp] def g5_pianolaref15_Bus_Set := G_unf c5_pianolaref15_Bus_Set.eq_1
@[simp] def g6_pianolaref15_Bus_Set := G_unf c6_pianolaref15_Bus_Set.eq_1
@[simp] def g_pianolaref15_Bus_Set := G_unf c_pianolaref15_Bus_Set.eq_1
theorem w_pianolaref15_Bus_Set : WC T n_pianolaref15_Bus_Set l h q ↔ G T (fin [.t 10] (some []) h.next q) c_pianolaref15_Bus_Set [] (envOf l) h := WC_G T_pianolaref15_Bus_Set
@[simp] def g0_bus_Bus_Next := G_unf c0_bus_Bus_Next.eq_1
@[simp] def g_bus_Bus_Next := G_unf c_bus_Bus_Next.eq_1
theorem w_bus_Bus_Next : WC T n_bus_Bus_Next l h q ↔ G T (fin [.t 2, .t 3] (some []) h.next q) c_bus_Bus_Next [] (envOf l) h := WC_G T_bus_Bus_Next
@[simp] def g0_pianolaref15_Bus_Next := G_unf c0_pianolaref15_Bus_Next.eq_1
@[simp] def g1_pianolaref15_Bus_Next := G_unf c1_pianolaref15_Bus_Next.eq_1
@[simp] def g_pianolaref15_Bus_Next := G_unf c_pianolaref15_Bus_Next.eq_1
theorem w_pianolaref15_Bus_Next : WC T n_pianolaref15_Bus_Next l h q ↔ G T (fin [.t 2, .t 3] (some []) h.next q) c_pianolaref15_Bus_Next [] (envOf l) h := WC_G T_pianolaref15_Bus_Next
@[simp] def g_bus_Bus_Raised := G_unf c_bus_Bus_Raised.eq_1
theorem w_bus_Bus_Raised : WC T n_bus_Bus_Raised l h q ↔ G T (fin [.t 2] (some []) h.next q) c_bus_Bus_Raised [] (envOf l) h := WC_G T_bus_Bus_Raised
@[simp] def g0_pianolaref15_Bus_Raised := G_unf c0_pianolaref15_Bus_Raised.eq_1
@[simp] def g_pianolaref15_Bus_Raised := G_unf c_pianolaref15_Bus_Raised.eq_1
theorem w_pianolaref15_Bus_Raised : WC T n_pianolaref15_Bus_Raised l h q ↔ G T (fin [.t 2] (some []) h.next q) c_pianolaref15_Bus_Raised [] (envOf l) h := WC_G T_pianolaref15_Bus_Raised
@[simp] def g0_pianolabook_Same_api_Event := G_unf c0_pianolabook_Same_api_Event.eq_1
@[simp] def g1_pianolabook_Same_api_Event := G_unf c1_pianolabook_Same_api_Event.eq_1
@[simp] def g2_pianolabook_Same_api_Event := G_unf c2_pianolabook_Same_api_Event.eq_1
@[simp] def g_pianolabook_Same_api_Event := G_unf c_pianolabook_Same_api_Event.eq_1
theorem w_pianolabook_Same_api_Event : WC T n_pianolabook_Same_api_Event l h q ↔ G T (fin [.t 4] (some []) h.next q) c_pianolabook_Same_api_Event [] (envOf l) h := WC_G T_pianolabook_Same_api_Event
@[simp] def g_bus_Bus_Events := G_unf c_bus_Bus_Events.eq_1
theorem w_bus_Bus_Events : WC T n_bus_Bus_Events l h q ↔ G T (fin [.t 2] (some []) h.next q) c_bus_Bus_Events [] (envOf l) h := WC_G T_bus_Bus_Events
@[simp] def g_bus_Bus_Out := G_unf c_bus_Bus_Out.eq_1
theorem w_bus_Bus_Out : WC T n_bus_Bus_Out l h q ↔ G T (fin [.t 2] (some []) h.next q) c_bus_Bus_Out [] (envOf l) h := WC_G T_bus_Bus_Out
@[simp] def g_bus_Bus_Disk := G_unf c_bus_Bus_Disk.eq_1
theorem w_bus_Bus_Disk : WC T n_bus_Bus_Disk l h q ↔ G T (fin [.t 2] (some []) h.next q) c_bus_Bus_Disk [] (envOf l) h := WC_G T_bus_Bus_Disk
@[simp] def g0_wheel_Wheel_Take := G_unf c0_wheel_Wheel_Take.eq_1
@[simp] def g1_wheel_Wheel_Take := G_unf c1_wheel_Wheel_Take.eq_1
@[simp] def g2_wheel_Wheel_Take := G_unf c2_wheel_Wheel_Take.eq_1
@[simp] def g_wheel_Wheel_Take := G_unf c_wheel_Wheel_Take.eq_1
theorem w_wheel_Wheel_Take : WC T n_wheel_Wheel_Take l h q ↔ G T (fin [.ldn 3 4, .t 5] (some []) h.next q) c_wheel_Wheel_Take [] (envOf l) h := WC_G T_wheel_Wheel_Take
@[simp] def g0_bus_Bus_fire := G_unf c0_bus_Bus_fire.eq_1
@[simp] def g1_bus_Bus_fire := G_unf c1_bus_Bus_fire.eq_1
@[simp] def g2_bus_Bus_fire := G_unf c2_bus_Bus_fire.eq_1
@[simp] def g3_bus_Bus_fire := G_unf c3_bus_Bus_fire.eq_1
@[simp] def g4_bus_Bus_fire := G_unf c4_bus_Bus_fire.eq_1
@[simp] def g_bus_Bus_fire := G_unf c_bus_Bus_fire.eq_1
theorem w_bus_Bus_fire : WC T n_bus_Bus_fire l h q ↔ G T (fin [] (some []) h.next q) c_bus_Bus_fire [] (envOf l) h := WC_G T_bus_Bus_fire
@[simp] def g0_pianolaref9_Wheel_Take := G_unf c0_pianolaref9_Wheel_Take.eq_1
@[simp] def g1_pianolaref9_Wheel_Take := G_unf c1_pianolaref9_Wheel_Take.eq_1
@[simp] def g2_pianolaref9_Wheel_Take := G_unf c2_pianolaref9_Wheel_Take.eq_1
@[simp] def g_pianolaref9_Wheel_Take := G_unf c_pianolaref9_Wheel_Take.eq_1
theorem w_pianolaref9_Wheel_Take : WC T n_pianolaref9_Wheel_Take l h q ↔ G T (fin [.ldn 3 4, .t 5] (some []) h.next q) c_pianolaref9_Wheel_Take [] (envOf l) h := WC_G T_pianolaref9_Wheel_Take
@[simp] def g0_pianolaref15_Bus_B1 := G_unf c0_pianolaref15_Bus_B1.eq_1
@[simp] def g1_pianolaref15_Bus_B1 := G_unf c1_pianolaref15_Bus_B1.eq_1
@[simp] def g2_pianolaref15_Bus_B1 := G_unf c2_pianolaref15_Bus_B1.eq_1
@[simp] def g3_pianolaref15_Bus_B1 := G_unf c3_pianolaref15_Bus_B1.eq_1
@[simp] def g4_pianolaref15_Bus_B1 := G_unf c4_pianolaref15_Bus_B1.eq_1
@[simp] def g5_pianolaref15_Bus_B1 := G_unf c5_pianolaref15_Bus_B1.eq_1
@[simp] def g6_pianolaref15_Bus_B1 := G_unf c6_pianolaref15_Bus_B1.eq_1
@[simp] def g7_pianolaref15_Bus_B1 := G_unf c7_pianolaref15_Bus_B1.eq_1
@[simp] def g8_pianolaref15_Bus_B1 := G_unf c8_pianolaref15_Bus_B1.eq_1
@[simp] def g9_pianolaref15_Bus_B1 := G_unf c9_pianolaref15_Bus_B1.eq_1
@[simp] def g10_pianolaref15_Bus_B1 := G_unf c10_pianolaref15_Bus_B1.eq_1
@[simp] def g11_pianolaref15_Bus_B1 := G_unf c11_pianolaref15_Bus_B1.eq_1
@[simp] def g_pianolaref15_Bus_B1 := G_unf c_pianolaref15_Bus_B1.eq_1
theorem w_pianolaref15_Bus_B1 : WC T n_pianolaref15_Bus_B1 l h q ↔ G T (fin [] (some []) h.next q) c_pianolaref15_Bus_B1 [] (envOf l) h := WC_G T_pianolaref15_Bus_B1
@[simp] def g_bus_Bus_Ram := G_unf c_bus_Bus_Ram.eq_1
theorem w_bus_Bus_Ram : WC T n_bus_Bus_Ram l h q ↔ G T (fin [.t 2] (some []) h.next q) c_bus_Bus_Ram [] (envOf l) h := WC_G T_bus_Bus_Ram
@[simp] def g0_pianolabook_Within := G_unf c0_pianolabook_Within.eq_1
@[simp] def g1_pianolabook_Within := G_unf c1_pianolabook_Within.eq_1
@[simp] def g_pianolabook_Within := G_unf c_pianolabook_Within.eq_1
theorem w_pianolabook_Within : WC T n_pianolabook_Within l h q ↔ G T (fin [.t 6] (some []) h.next q) c_pianolabook_Within [] (envOf l) h := WC_G T_pianolabook_Within
@[simp] def g0_ram_Ram_Bytes := G_unf c0_ram_Ram_Bytes.eq_1
@[simp] def g1_ram_Ram_Bytes := G_unf c1_ram_Ram_Bytes.eq_1
@[simp] def g_ram_Ram_Bytes := G_unf c_ram_Ram_Bytes.eq_1
theorem w_ram_Ram_Bytes : WC T n_ram_Ram_Bytes l h q ↔ G T (fin [.t 6, .t 7] (some []) h.next q) c_ram_Ram_Bytes [] (envOf l) h := WC_G T_ram_Ram_Bytes
@[simp] def g0_ram_Ram_there := G_unf c0_ram_Ram_there.eq_1
@[simp] def g_ram_Ram_there := G_unf c_ram_Ram_there.eq_1
theorem w_ram_Ram_there : WC T n_ram_Ram_there l h q ↔ G T (fin [.t 6] (some []) h.next q) c_ram_Ram_there [] (envOf l) h := WC_G T_ram_Ram_there
@[simp] def g0_ram_Ram_touch := G_unf c0_ram_Ram_touch.eq_1
@[simp] def g1_ram_Ram_touch := G_unf c1_ram_Ram_touch.eq_1
@[simp] def g_ram_Ram_touch := G_unf c_ram_Ram_touch.eq_1
theorem w_ram_Ram_touch : WC T n_ram_Ram_touch l h q ↔ G T (fin [] (some []) h.next q) c_ram_Ram_touch [] (envOf l) h := WC_G T_ram_Ram_touch
@[simp] def g0_ram_Ram_even := G_unf c0_ram_Ram_even.eq_1
@[simp] def g_ram_Ram_even := G_unf c_ram_Ram_even.eq_1
theorem w_ram_Ram_even : WC T n_ram_Ram_even l h q ↔ G T (fin [.t 6] (some []) h.next q) c_ram_Ram_even [] (envOf l) h := WC_G T_ram_Ram_even
@[simp] def g0_lines_Lines_Read := G_unf c0_lines_Lines_Read.eq_1
@[simp] def g1_lines_Lines_Read := G_unf c1_lines_Lines_Read.eq_1
@[simp] def g2_lines_Lines_Read := G_unf c2_lines_Lines_Read.eq_1
@[simp] def g_lines_Lines_Read := G_unf c_lines_Lines_Read.eq_1
theorem w_lines_Lines_Read : WC T n_lines_Lines_Read l h q ↔ G T (fin [.t 6, .t 7] (some []) h.next q) c_lines_Lines_Read [] (envOf l) h := WC_G T_lines_Lines_Read
@[simp] def g0_timer_Timer_Read := G_unf c0_timer_Timer_Read.eq_1
@[simp] def g1_timer_Timer_Read := G_unf c1_timer_Timer_Read.eq_1
@[simp] def g2_timer_Timer_Read := G_unf c2_timer_Timer_Read.eq_1
@[simp] def g_timer_Timer_Read := G_unf c_timer_Timer_Read.eq_1
theorem w_timer_Timer_Read : WC T n_timer_Timer_Read l h q ↔ G T (fin [.t 4, .t 5] (some []) h.next q) c_timer_Timer_Read [] (envOf l) h := WC_G T_timer_Timer_Read
@[simp] def g0_uart_Uart_Read := G_unf c0_uart_Uart_Read.eq_1
@[simp] def g1_uart_Uart_Read := G_unf c1_uart_Uart_Read.eq_1
@[simp] def g2_uart_Uart_Read := G_unf c2_uart_Uart_Read.eq_1
@[simp] def g3_uart_Uart_Read := G_unf c3_uart_Uart_Read.eq_1
@[simp] def g_uart_Uart_Read := G_unf c_uart_Uart_Read.eq_1
theorem w_uart_Uart_Read : WC T n_uart_Uart_Read l h q ↔ G T (fin [.t 4, .t 5] (some []) h.next q) c_uart_Uart_Read [] (envOf l) h := WC_G T_uart_Uart_Read
@[simp] def g0_dma_Dma_Read := G_unf c0_dma_Dma_Read.eq_1
@[simp] def g1_dma_Dma_Read := G_unf c1_dma_Dma_Read.eq_1
@[simp] def g2_dma_Dma_Read := G_unf c2_dma_Dma_Read.eq_1
@[simp] def g3_dma_Dma_Read := G_unf c3_dma_Dma_Read.eq_1
@[simp] def g_dma_Dma_Read := G_unf c_dma_Dma_Read.eq_1
theorem w_dma_Dma_Read : WC T n_dma_Dma_Read l h q ↔ G T (fin [.t 4, .t 5] (some []) h.next q) c_dma_Dma_Read [] (envOf l) h := WC_G T_dma_Dma_Read
@[simp] def g0_disk_Disk_Read := G_unf c0_disk_Disk_Read.eq_1
@[simp] def g1_disk_Disk_Read := G_unf c1_disk_Disk_Read.eq_1
@[simp] def g2_disk_Disk_Read := G_unf c2_disk_Disk_Read.eq_1
@[simp] def g3_disk_Disk_Read := G_unf c3_disk_Disk_Read.eq_1
@[simp] def g_disk_Disk_Read := G_unf c_disk_Disk_Read.eq_1
theorem w_disk_Disk_Read : WC T n_disk_Disk_Read l h q ↔ G T (fin [.t 4, .t 5] (some []) h.next q) c_disk_Disk_Read [] (envOf l) h := WC_G T_disk_Disk_Read
@[simp] def g0_lines_Lines_Set := G_unf c0_lines_Lines_Set.eq_1
@[simp] def g1_lines_Lines_Set := G_unf c1_lines_Lines_Set.eq_1
@[simp] def g_lines_Lines_Set := G_unf c_lines_Lines_Set.eq_1
theorem w_lines_Lines_Set : WC T n_lines_Lines_Set l h q ↔ G T (fin [] (some []) h.next q) c_lines_Lines_Set [] (envOf l) h := WC_G T_lines_Lines_Set
@[simp] def g0_bus_Bus_line := G_unf c0_bus_Bus_line.eq_1
@[simp] def g1_bus_Bus_line := G_unf c1_bus_Bus_line.eq_1
@[simp] def g2_bus_Bus_line := G_unf c2_bus_Bus_line.eq_1
@[simp] def g3_bus_Bus_line := G_unf c3_bus_Bus_line.eq_1
@[simp] def g_bus_Bus_line := G_unf c_bus_Bus_line.eq_1
theorem w_bus_Bus_line : WC T n_bus_Bus_line l h q ↔ G T (fin [.t 4] (some []) h.next q) c_bus_Bus_line [] (envOf l) h := WC_G T_bus_Bus_line
@[simp] def g0_pianolaref2_Ram_In := G_unf c0_pianolaref2_Ram_In.eq_1
@[simp] def g_pianolaref2_Ram_In := G_unf c_pianolaref2_Ram_In.eq_1
theorem w_pianolaref2_Ram_In : WC T n_pianolaref2_Ram_In l h q ↔ G T (fin [.t 6] (some []) h.next q) c_pianolaref2_Ram_In [] (envOf l) h := WC_G T_pianolaref2_Ram_In
@[simp] def g_pianolaref15_bit := G_unf c_pianolaref15_bit.eq_1
theorem w_pianolaref15_bit : WC T n_pianolaref15_bit l h q ↔ G T (fin [.t 4] (some []) h.next q) c_pianolaref15_bit [] (envOf l) h := WC_G T_pianolaref15_bit
@[simp] def g0_pianolaref15_Bus_Line := G_unf c0_pianolaref15_Bus_Line.eq_1
@[simp] def g1_pianolaref15_Bus_Line := G_unf c1_pianolaref15_Bus_Line.eq_1
@[simp] def g2_pianolaref15_Bus_Line := G_unf c2_pianolaref15_Bus_Line.eq_1
@[simp] def g3_pianolaref15_Bus_Line := G_unf c3_pianolaref15_Bus_Line.eq_1
@[simp] def g4_pianolaref15_Bus_Line := G_unf c4_pianolaref15_Bus_Line.eq_1
@[simp] def g5_pianolaref15_Bus_Line := G_unf c5_pianolaref15_Bus_Line.eq_1
@[simp] def g_pianolaref15_Bus_Line := G_unf c_pianolaref15_Bus_Line.eq_1
theorem w_pianolaref15_Bus_Line : WC T n_pianolaref15_Bus_Line l h q ↔ G T (fin [.t 4] (some []) h.next q) c_pianolaref15_Bus_Line [] (envOf l) h := WC_G T_pianolaref15_Bus_Line
@[simp] def g0_lines_Lines_Write := G_unf c0_lines_Lines_Write.eq_1
@[simp] def g1_lines_Lines_Write := G_unf c1_lines_Lines_Write.eq_1
@[simp] def g_lines_Lines_Write := G_unf c_lines_Lines_Write.eq_1
theorem w_lines_Lines_Write : WC T n_lines_Lines_Write l h q ↔ G T (fin [.t 6] (some []) h.next q) c_lines_Lines_Write [] (envOf l) h := WC_G T_lines_Lines_Write
@[simp] def g0_timer_Timer_Write := G_unf c0_timer_Timer_Write.eq_1
@[simp] def g1_timer_Timer_Write := G_unf c1_timer_Timer_Write.eq_1
@[simp] def g2_timer_Timer_Write := G_unf c2_timer_Timer_Write.eq_1
@[simp] def g3_timer_Timer_Write := G_unf c3_timer_Timer_Write.eq_1
@[simp] def g4_timer_Timer_Write := G_unf c4_timer_Timer_Write.eq_1
@[simp] def g_timer_Timer_Write := G_unf c_timer_Timer_Write.eq_1
theorem w_timer_Timer_Write : WC T n_timer_Timer_Write l h q ↔ G T (fin [.t 8] (some []) h.next q) c_timer_Timer_Write [] (envOf l) h := WC_G T_timer_Timer_Write
@[simp] def g0_uart_Uart_Write := G_unf c0_uart_Uart_Write.eq_1
@[simp] def g1_uart_Uart_Write := G_unf c1_uart_Uart_Write.eq_1
@[simp] def g2_uart_Uart_Write := G_unf c2_uart_Uart_Write.eq_1
@[simp] def g3_uart_Uart_Write := G_unf c3_uart_Uart_Write.eq_1
@[simp] def g_uart_Uart_Write := G_unf c_uart_Uart_Write.eq_1
theorem w_uart_Uart_Write : WC T n_uart_Uart_Write l h q ↔ G T (fin [.t 8] (some []) h.next q) c_uart_Uart_Write [] (envOf l) h := WC_G T_uart_Uart_Write
@[simp] def g0_dma_Dma_Write := G_unf c0_dma_Dma_Write.eq_1
@[simp] def g1_dma_Dma_Write := G_unf c1_dma_Dma_Write.eq_1
@[simp] def g2_dma_Dma_Write := G_unf c2_dma_Dma_Write.eq_1
@[simp] def g3_dma_Dma_Write := G_unf c3_dma_Dma_Write.eq_1
@[simp] def g_dma_Dma_Write := G_unf c_dma_Dma_Write.eq_1
theorem w_dma_Dma_Write : WC T n_dma_Dma_Write l h q ↔ G T (fin [.t 8] (some []) h.next q) c_dma_Dma_Write [] (envOf l) h := WC_G T_dma_Dma_Write
@[simp] def g0_disk_Disk_Write := G_unf c0_disk_Disk_Write.eq_1
@[simp] def g1_disk_Disk_Write := G_unf c1_disk_Disk_Write.eq_1
@[simp] def g2_disk_Disk_Write := G_unf c2_disk_Disk_Write.eq_1
@[simp] def g3_disk_Disk_Write := G_unf c3_disk_Disk_Write.eq_1
@[simp] def g_disk_Disk_Write := G_unf c_disk_Disk_Write.eq_1
theorem w_disk_Disk_Write : WC T n_disk_Disk_Write l h q ↔ G T (fin [.t 8] (some []) h.next q) c_disk_Disk_Write [] (envOf l) h := WC_G T_disk_Disk_Write
@[simp] def g0_pianolaref2_Ram_touch := G_unf c0_pianolaref2_Ram_touch.eq_1
@[simp] def g1_pianolaref2_Ram_touch := G_unf c1_pianolaref2_Ram_touch.eq_1
@[simp] def g2_pianolaref2_Ram_touch := G_unf c2_pianolaref2_Ram_touch.eq_1
@[simp] def g_pianolaref2_Ram_touch := G_unf c_pianolaref2_Ram_touch.eq_1
theorem w_pianolaref2_Ram_touch : WC T n_pianolaref2_Ram_touch l h q ↔ G T (fin [] (some []) h.next q) c_pianolaref2_Ram_touch [] (envOf l) h := WC_G T_pianolaref2_Ram_touch
@[simp] def g0_pianolaref15_Bus_timer := G_unf c0_pianolaref15_Bus_timer.eq_1
@[simp] def g1_pianolaref15_Bus_timer := G_unf c1_pianolaref15_Bus_timer.eq_1
@[simp] def g2_pianolaref15_Bus_timer := G_unf c2_pianolaref15_Bus_timer.eq_1
@[simp] def g3_pianolaref15_Bus_timer := G_unf c3_pianolaref15_Bus_timer.eq_1
@[simp] def g4_pianolaref15_Bus_timer := G_unf c4_pianolaref15_Bus_timer.eq_1
@[simp] def g5_pianolaref15_Bus_timer := G_unf c5_pianolaref15_Bus_timer.eq_1
@[simp] def g_pianolaref15_Bus_timer := G_unf c_pianolaref15_Bus_timer.eq_1
theorem w_pianolaref15_Bus_timer : WC T n_pianolaref15_Bus_timer l h q ↔ G T (fin [.t 10] (some []) h.next q) c_pianolaref15_Bus_timer [] (envOf l) h := WC_G T_pianolaref15_Bus_timer
@[simp] def g0_pianolaref15_Bus_uart := G_unf c0_pianolaref15_Bus_uart.eq_1
@[simp] def g1_pianolaref15_Bus_uart := G_unf c1_pianolaref15_Bus_uart.eq_1
@[simp] def g2_pianolaref15_Bus_uart := G_unf c2_pianolaref15_Bus_uart.eq_1
@[simp] def g3_pianolaref15_Bus_uart := G_unf c3_pianolaref15_Bus_uart.eq_1
@[simp] def g4_pianolaref15_Bus_uart := G_unf c4_pianolaref15_Bus_uart.eq_1
@[simp] def g5_pianolaref15_Bus_uart := G_unf c5_pianolaref15_Bus_uart.eq_1
@[simp] def g_pianolaref15_Bus_uart := G_unf c_pianolaref15_Bus_uart.eq_1
theorem w_pianolaref15_Bus_uart : WC T n_pianolaref15_Bus_uart l h q ↔ G T (fin [.t 8] (some []) h.next q) c_pianolaref15_Bus_uart [] (envOf l) h := WC_G T_pianolaref15_Bus_uart
@[simp] def g0_pianolaref15_Bus_dma := G_unf c0_pianolaref15_Bus_dma.eq_1
@[simp] def g1_pianolaref15_Bus_dma := G_unf c1_pianolaref15_Bus_dma.eq_1
@[simp] def g2_pianolaref15_Bus_dma := G_unf c2_pianolaref15_Bus_dma.eq_1
@[simp] def g3_pianolaref15_Bus_dma := G_unf c3_pianolaref15_Bus_dma.eq_1
@[simp] def g4_pianolaref15_Bus_dma := G_unf c4_pianolaref15_Bus_dma.eq_1
@[simp] def g5_pianolaref15_Bus_dma := G_unf c5_pianolaref15_Bus_dma.eq_1
@[simp] def g6_pianolaref15_Bus_dma := G_unf c6_pianolaref15_Bus_dma.eq_1
@[simp] def g7_pianolaref15_Bus_dma := G_unf c7_pianolaref15_Bus_dma.eq_1
@[simp] def g_pianolaref15_Bus_dma := G_unf c_pianolaref15_Bus_dma.eq_1
theorem w_pianolaref15_Bus_dma : WC T n_pianolaref15_Bus_dma l h q ↔ G T (fin [.t 8] (some []) h.next q) c_pianolaref15_Bus_dma [] (envOf l) h := WC_G T_pianolaref15_Bus_dma
@[simp] def g0_pianolaref15_Bus_disk := G_unf c0_pianolaref15_Bus_disk.eq_1
@[simp] def g1_pianolaref15_Bus_disk := G_unf c1_pianolaref15_Bus_disk.eq_1
@[simp] def g2_pianolaref15_Bus_disk := G_unf c2_pianolaref15_Bus_disk.eq_1
@[simp] def g3_pianolaref15_Bus_disk := G_unf c3_pianolaref15_Bus_disk.eq_1
@[simp] def g4_pianolaref15_Bus_disk := G_unf c4_pianolaref15_Bus_disk.eq_1
@[simp] def g5_pianolaref15_Bus_disk := G_unf c5_pianolaref15_Bus_disk.eq_1
@[simp] def g_pianolaref15_Bus_disk := G_unf c_pianolaref15_Bus_disk.eq_1
theorem w_pianolaref15_Bus_disk : WC T n_pianolaref15_Bus_disk l h q ↔ G T (fin [.t 8] (some []) h.next q) c_pianolaref15_Bus_disk [] (envOf l) h := WC_G T_pianolaref15_Bus_disk
@[simp] def g0_wheel_Wheel_Next := G_unf c0_wheel_Wheel_Next.eq_1
@[simp] def g1_wheel_Wheel_Next := G_unf c1_wheel_Wheel_Next.eq_1
@[simp] def g_wheel_Wheel_Next := G_unf c_wheel_Wheel_Next.eq_1
theorem w_wheel_Wheel_Next : WC T n_wheel_Wheel_Next l h q ↔ G T (fin [.t 2, .t 3] (some []) h.next q) c_wheel_Wheel_Next [] (envOf l) h := WC_G T_wheel_Wheel_Next
@[simp] def g0_lines_Lines_Raised := G_unf c0_lines_Lines_Raised.eq_1
@[simp] def g_lines_Lines_Raised := G_unf c_lines_Lines_Raised.eq_1
theorem w_lines_Lines_Raised : WC T n_lines_Lines_Raised l h q ↔ G T (fin [.t 2] (some []) h.next q) c_lines_Lines_Raised [] (envOf l) h := WC_G T_lines_Lines_Raised
@[simp] def g_wheel_Wheel_All := G_unf c_wheel_Wheel_All.eq_1
theorem w_wheel_Wheel_All : WC T n_wheel_Wheel_All l h q ↔ G T (fin [.t 2] (some []) h.next q) c_wheel_Wheel_All [] (envOf l) h := WC_G T_wheel_Wheel_All
@[simp] def g_uart_Uart_Out := G_unf c_uart_Uart_Out.eq_1
theorem w_uart_Uart_Out : WC T n_uart_Uart_Out l h q ↔ G T (fin [.t 2] (some []) h.next q) c_uart_Uart_Out [] (envOf l) h := WC_G T_uart_Uart_Out
@[simp] def g_disk_Disk_Bytes := G_unf c_disk_Disk_Bytes.eq_1
theorem w_disk_Disk_Bytes : WC T n_disk_Disk_Bytes l h q ↔ G T (fin [.t 2] (some []) h.next q) c_disk_Disk_Bytes [] (envOf l) h := WC_G T_disk_Disk_Bytes
@[simp] def g0_slices_Delete_api_Event_api_Event := G_unf c0_slices_Delete_api_Event_api_Event.eq_1
@[simp] def g1_slices_Delete_api_Event_api_Event := G_unf c1_slices_Delete_api_Event_api_Event.eq_1
@[simp] def g2_slices_Delete_api_Event_api_Event := G_unf c2_slices_Delete_api_Event_api_Event.eq_1
@[simp] def g_slices_Delete_api_Event_api_Event := G_unf c_slices_Delete_api_Event_api_Event.eq_1
theorem w_slices_Delete_api_Event_api_Event : WC T n_slices_Delete_api_Event_api_Event l h q ↔ G T (fin [.t 6] (some []) h.next q) c_slices_Delete_api_Event_api_Event [] (envOf l) h := WC_G T_slices_Delete_api_Event_api_Event
@[simp] def g0_timer_Timer_Fire := G_unf c0_timer_Timer_Fire.eq_1
@[simp] def g_timer_Timer_Fire := G_unf c_timer_Timer_Fire.eq_1
theorem w_timer_Timer_Fire : WC T n_timer_Timer_Fire l h q ↔ G T (fin [] (some []) h.next q) c_timer_Timer_Fire [] (envOf l) h := WC_G T_timer_Timer_Fire
@[simp] def g0_uart_Uart_Fire := G_unf c0_uart_Uart_Fire.eq_1
@[simp] def g1_uart_Uart_Fire := G_unf c1_uart_Uart_Fire.eq_1
@[simp] def g2_uart_Uart_Fire := G_unf c2_uart_Uart_Fire.eq_1
@[simp] def g_uart_Uart_Fire := G_unf c_uart_Uart_Fire.eq_1
theorem w_uart_Uart_Fire : WC T n_uart_Uart_Fire l h q ↔ G T (fin [] (some []) h.next q) c_uart_Uart_Fire [] (envOf l) h := WC_G T_uart_Uart_Fire
@[simp] def g0_dma_Dma_Fire := G_unf c0_dma_Dma_Fire.eq_1
@[simp] def g_dma_Dma_Fire := G_unf c_dma_Dma_Fire.eq_1
theorem w_dma_Dma_Fire : WC T n_dma_Dma_Fire l h q ↔ G T (fin [] (some []) h.next q) c_dma_Dma_Fire [] (envOf l) h := WC_G T_dma_Dma_Fire
@[simp] def g0_disk_Disk_Fire := G_unf c0_disk_Disk_Fire.eq_1
@[simp] def g_disk_Disk_Fire := G_unf c_disk_Disk_Fire.eq_1
theorem w_disk_Disk_Fire : WC T n_disk_Disk_Fire l h q ↔ G T (fin [] (some []) h.next q) c_disk_Disk_Fire [] (envOf l) h := WC_G T_disk_Disk_Fire
@[simp] def g0_pianolaref9_Wheel_Arm := G_unf c0_pianolaref9_Wheel_Arm.eq_1
@[simp] def g1_pianolaref9_Wheel_Arm := G_unf c1_pianolaref9_Wheel_Arm.eq_1
@[simp] def g2_pianolaref9_Wheel_Arm := G_unf c2_pianolaref9_Wheel_Arm.eq_1
@[simp] def g3_pianolaref9_Wheel_Arm := G_unf c3_pianolaref9_Wheel_Arm.eq_1
@[simp] def g_pianolaref9_Wheel_Arm := G_unf c_pianolaref9_Wheel_Arm.eq_1
theorem w_pianolaref9_Wheel_Arm : WC T n_pianolaref9_Wheel_Arm l h q ↔ G T (fin [.t 6] (some []) h.next q) c_pianolaref9_Wheel_Arm [] (envOf l) h := WC_G T_pianolaref9_Wheel_Arm
@[simp] def g0_pianolaref15_Bus_move := G_unf c0_pianolaref15_Bus_move.eq_1
@[simp] def g1_pianolaref15_Bus_move := G_unf c1_pianolaref15_Bus_move.eq_1
@[simp] def g2_pianolaref15_Bus_move := G_unf c2_pianolaref15_Bus_move.eq_1
@[simp] def g3_pianolaref15_Bus_move := G_unf c3_pianolaref15_Bus_move.eq_1
@[simp] def g4_pianolaref15_Bus_move := G_unf c4_pianolaref15_Bus_move.eq_1
@[simp] def g_pianolaref15_Bus_move := G_unf c_pianolaref15_Bus_move.eq_1
theorem w_pianolaref15_Bus_move : WC T n_pianolaref15_Bus_move l h q ↔ G T (fin [] (some []) h.next q) c_pianolaref15_Bus_move [] (envOf l) h := WC_G T_pianolaref15_Bus_move
@[simp] def g0_pianolaref15_Bus_sector := G_unf c0_pianolaref15_Bus_sector.eq_1
@[simp] def g1_pianolaref15_Bus_sector := G_unf c1_pianolaref15_Bus_sector.eq_1
@[simp] def g2_pianolaref15_Bus_sector := G_unf c2_pianolaref15_Bus_sector.eq_1
@[simp] def g3_pianolaref15_Bus_sector := G_unf c3_pianolaref15_Bus_sector.eq_1
@[simp] def g4_pianolaref15_Bus_sector := G_unf c4_pianolaref15_Bus_sector.eq_1
@[simp] def g5_pianolaref15_Bus_sector := G_unf c5_pianolaref15_Bus_sector.eq_1
@[simp] def g6_pianolaref15_Bus_sector := G_unf c6_pianolaref15_Bus_sector.eq_1
@[simp] def g_pianolaref15_Bus_sector := G_unf c_pianolaref15_Bus_sector.eq_1
theorem w_pianolaref15_Bus_sector : WC T n_pianolaref15_Bus_sector l h q ↔ G T (fin [] (some []) h.next q) c_pianolaref15_Bus_sector [] (envOf l) h := WC_G T_pianolaref15_Bus_sector
@[simp] def g0_slices_Clone_byte_byte := G_unf c0_slices_Clone_byte_byte.eq_1
@[simp] def g_slices_Clone_byte_byte := G_unf c_slices_Clone_byte_byte.eq_1
theorem w_slices_Clone_byte_byte : WC T n_slices_Clone_byte_byte l h q ↔ G T (fin [.t 2] (some []) h.next q) c_slices_Clone_byte_byte [] (envOf l) h := WC_G T_slices_Clone_byte_byte
@[simp] def g_uart_bit := G_unf c_uart_bit.eq_1
theorem w_uart_bit : WC T n_uart_bit l h q ↔ G T (fin [.t 4] (some []) h.next q) c_uart_bit [] (envOf l) h := WC_G T_uart_bit
@[simp] def g_timer_Timer_Line := G_unf c_timer_Timer_Line.eq_1
theorem w_timer_Timer_Line : WC T n_timer_Timer_Line l h q ↔ G T (fin [.t 2] (some []) h.next q) c_timer_Timer_Line [] (envOf l) h := WC_G T_timer_Timer_Line
@[simp] def g0_uart_Uart_Line := G_unf c0_uart_Uart_Line.eq_1
@[simp] def g_uart_Uart_Line := G_unf c_uart_Uart_Line.eq_1
theorem w_uart_Uart_Line : WC T n_uart_Uart_Line l h q ↔ G T (fin [.t 2] (some []) h.next q) c_uart_Uart_Line [] (envOf l) h := WC_G T_uart_Uart_Line
@[simp] def g_dma_Dma_Line := G_unf c_dma_Dma_Line.eq_1
theorem w_dma_Dma_Line : WC T n_dma_Dma_Line l h q ↔ G T (fin [.t 2] (some []) h.next q) c_dma_Dma_Line [] (envOf l) h := WC_G T_dma_Dma_Line
@[simp] def g_disk_Disk_Line := G_unf c_disk_Disk_Line.eq_1
theorem w_disk_Disk_Line : WC T n_disk_Disk_Line l h q ↔ G T (fin [.t 2] (some []) h.next q) c_disk_Disk_Line [] (envOf l) h := WC_G T_disk_Disk_Line
@[simp] def g_timer_Timer_arm := G_unf c_timer_Timer_arm.eq_1
theorem w_timer_Timer_arm : WC T n_timer_Timer_arm l h q ↔ G T (fin [] (some []) h.next q) c_timer_Timer_arm [] (envOf l) h := WC_G T_timer_Timer_arm
@[simp] def g0_wheel_Wheel_Cancel := G_unf c0_wheel_Wheel_Cancel.eq_1
@[simp] def g1_wheel_Wheel_Cancel := G_unf c1_wheel_Wheel_Cancel.eq_1
@[simp] def g_wheel_Wheel_Cancel := G_unf c_wheel_Wheel_Cancel.eq_1
theorem w_wheel_Wheel_Cancel : WC T n_wheel_Wheel_Cancel l h q ↔ G T (fin [.t 4] (some []) h.next q) c_wheel_Wheel_Cancel [] (envOf l) h := WC_G T_wheel_Wheel_Cancel
@[simp] def g_uart_Uart_arm := G_unf c_uart_Uart_arm.eq_1
theorem w_uart_Uart_arm : WC T n_uart_Uart_arm l h q ↔ G T (fin [] (some []) h.next q) c_uart_Uart_arm [] (envOf l) h := WC_G T_uart_Uart_arm
@[simp] def g0_dma_Dma_begin := G_unf c0_dma_Dma_begin.eq_1
@[simp] def g1_dma_Dma_begin := G_unf c1_dma_Dma_begin.eq_1
@[simp] def g_dma_Dma_begin := G_unf c_dma_Dma_begin.eq_1
theorem w_dma_Dma_begin : WC T n_dma_Dma_begin l h q ↔ G T (fin [] (some []) h.next q) c_dma_Dma_begin [] (envOf l) h := WC_G T_dma_Dma_begin
@[simp] def g0_disk_Disk_begin := G_unf c0_disk_Disk_begin.eq_1
@[simp] def g1_disk_Disk_begin := G_unf c1_disk_Disk_begin.eq_1
@[simp] def g_disk_Disk_begin := G_unf c_disk_Disk_begin.eq_1
theorem w_disk_Disk_begin : WC T n_disk_Disk_begin l h q ↔ G T (fin [] (some []) h.next q) c_disk_Disk_begin [] (envOf l) h := WC_G T_disk_Disk_begin
@[simp] def g0_pianolaref9_Wheel_Cancel := G_unf c0_pianolaref9_Wheel_Cancel.eq_1
@[simp] def g1_pianolaref9_Wheel_Cancel := G_unf c1_pianolaref9_Wheel_Cancel.eq_1
@[simp] def g2_pianolaref9_Wheel_Cancel := G_unf c2_pianolaref9_Wheel_Cancel.eq_1
@[simp] def g_pianolaref9_Wheel_Cancel := G_unf c_pianolaref9_Wheel_Cancel.eq_1
theorem w_pianolaref9_Wheel_Cancel : WC T n_pianolaref9_Wheel_Cancel l h q ↔ G T (fin [.t 4] (some []) h.next q) c_pianolaref9_Wheel_Cancel [] (envOf l) h := WC_G T_pianolaref9_Wheel_Cancel
@[simp] def g0_slices_Clone_api_Event_api_Event := G_unf c0_slices_Clone_api_Event_api_Event.eq_1
@[simp] def g_slices_Clone_api_Event_api_Event := G_unf c_slices_Clone_api_Event_api_Event.eq_1
theorem w_slices_Clone_api_Event_api_Event : WC T n_slices_Clone_api_Event_api_Event l h q ↔ G T (fin [.t 2] (some []) h.next q) c_slices_Clone_api_Event_api_Event [] (envOf l) h := WC_G T_slices_Clone_api_Event_api_Event
@[simp] def g0_dma_Dma_move := G_unf c0_dma_Dma_move.eq_1
@[simp] def g1_dma_Dma_move := G_unf c1_dma_Dma_move.eq_1
@[simp] def g_dma_Dma_move := G_unf c_dma_Dma_move.eq_1
theorem w_dma_Dma_move : WC T n_dma_Dma_move l h q ↔ G T (fin [.t 2] (some []) h.next q) c_dma_Dma_move [] (envOf l) h := WC_G T_dma_Dma_move
@[simp] def g0_disk_Disk_do := G_unf c0_disk_Disk_do.eq_1
@[simp] def g1_disk_Disk_do := G_unf c1_disk_Disk_do.eq_1
@[simp] def g2_disk_Disk_do := G_unf c2_disk_Disk_do.eq_1
@[simp] def g3_disk_Disk_do := G_unf c3_disk_Disk_do.eq_1
@[simp] def g4_disk_Disk_do := G_unf c4_disk_Disk_do.eq_1
@[simp] def g_disk_Disk_do := G_unf c_disk_Disk_do.eq_1
theorem w_disk_Disk_do : WC T n_disk_Disk_do l h q ↔ G T (fin [.t 2] (some []) h.next q) c_disk_Disk_do [] (envOf l) h := WC_G T_disk_Disk_do
@[simp] def g0_pianolaref2_Ram_Bytes := G_unf c0_pianolaref2_Ram_Bytes.eq_1
@[simp] def g1_pianolaref2_Ram_Bytes := G_unf c1_pianolaref2_Ram_Bytes.eq_1
@[simp] def g_pianolaref2_Ram_Bytes := G_unf c_pianolaref2_Ram_Bytes.eq_1
theorem w_pianolaref2_Ram_Bytes : WC T n_pianolaref2_Ram_Bytes l h q ↔ G T (fin [.t 6, .t 7] (some []) h.next q) c_pianolaref2_Ram_Bytes [] (envOf l) h := WC_G T_pianolaref2_Ram_Bytes
@[simp] def g0_pianolaref2_Ram_Put := G_unf c0_pianolaref2_Ram_Put.eq_1
@[simp] def g1_pianolaref2_Ram_Put := G_unf c1_pianolaref2_Ram_Put.eq_1
@[simp] def g_pianolaref2_Ram_Put := G_unf c_pianolaref2_Ram_Put.eq_1
theorem w_pianolaref2_Ram_Put : WC T n_pianolaref2_Ram_Put l h q ↔ G T (fin [.t 6] (some []) h.next q) c_pianolaref2_Ram_Put [] (envOf l) h := WC_G T_pianolaref2_Ram_Put
@[simp] def g0_wheel_Wheel_Arm := G_unf c0_wheel_Wheel_Arm.eq_1
@[simp] def g1_wheel_Wheel_Arm := G_unf c1_wheel_Wheel_Arm.eq_1
@[simp] def g2_wheel_Wheel_Arm := G_unf c2_wheel_Wheel_Arm.eq_1
@[simp] def g_wheel_Wheel_Arm := G_unf c_wheel_Wheel_Arm.eq_1
theorem w_wheel_Wheel_Arm : WC T n_wheel_Wheel_Arm l h q ↔ G T (fin [.t 6] (some []) h.next q) c_wheel_Wheel_Arm [] (envOf l) h := WC_G T_wheel_Wheel_Arm
@[simp] def g_wheel_Wheel_find := G_unf c_wheel_Wheel_find.eq_1
theorem w_wheel_Wheel_find : WC T n_wheel_Wheel_find l h q ↔ G T (fin [.t 4] (some []) h.next q) c_wheel_Wheel_find [] (envOf l) h := WC_G T_wheel_Wheel_find
@[simp] def g_disk_Disk_Sectors := G_unf c_disk_Disk_Sectors.eq_1
theorem w_disk_Disk_Sectors : WC T n_disk_Disk_Sectors l h q ↔ G T (fin [.t 2] (some []) h.next q) c_disk_Disk_Sectors [] (envOf l) h := WC_G T_disk_Disk_Sectors
@[simp] def g_slices_SortStableFunc_api_Event_api_Event := G_unf c_slices_SortStableFunc_api_Event_api_Event.eq_1
theorem w_slices_SortStableFunc_api_Event_api_Event : WC T n_slices_SortStableFunc_api_Event_api_Event l h q ↔ G T (fin [] (some []) h.next q) c_slices_SortStableFunc_api_Event_api_Event [] (envOf l) h := WC_G T_slices_SortStableFunc_api_Event_api_Event
@[simp] def g_wheel_Wheel_Arm_1 := G_unf c_wheel_Wheel_Arm_1.eq_1
theorem w_wheel_Wheel_Arm_1 : WC T n_wheel_Wheel_Arm_1 l h q ↔ G T (fin [.t 4] (some []) h.next q) c_wheel_Wheel_Arm_1 [] (envOf l) h := WC_G T_wheel_Wheel_Arm_1
@[simp] def g0_cmp_Compare_int64 := G_unf c0_cmp_Compare_int64.eq_1
@[simp] def g1_cmp_Compare_int64 := G_unf c1_cmp_Compare_int64.eq_1
@[simp] def g_cmp_Compare_int64 := G_unf c_cmp_Compare_int64.eq_1
theorem w_cmp_Compare_int64 : WC T n_cmp_Compare_int64 l h q ↔ G T (fin [.t 4] (some []) h.next q) c_cmp_Compare_int64 [] (envOf l) h := WC_G T_cmp_Compare_int64
@[simp] def g0_slices_IndexFunc_api_Event_api_Event := G_unf c0_slices_IndexFunc_api_Event_api_Event.eq_1
@[simp] def g1_slices_IndexFunc_api_Event_api_Event := G_unf c1_slices_IndexFunc_api_Event_api_Event.eq_1
@[simp] def g_slices_IndexFunc_api_Event_api_Event := G_unf c_slices_IndexFunc_api_Event_api_Event.eq_1
theorem w_slices_IndexFunc_api_Event_api_Event : WC T n_slices_IndexFunc_api_Event_api_Event l h q ↔ G T (fin [.t 4] (some []) h.next q) c_slices_IndexFunc_api_Event_api_Event [] (envOf l) h := WC_G T_slices_IndexFunc_api_Event_api_Event
@[simp] def g_wheel_Wheel_find_1 := G_unf c_wheel_Wheel_find_1.eq_1
theorem w_wheel_Wheel_find_1 : WC T n_wheel_Wheel_find_1 l h q ↔ G T (fin [.t 3] (some []) h.next q) c_wheel_Wheel_find_1 [] (envOf l) h := WC_G T_wheel_Wheel_find_1
@[simp] def g0_slices_stableCmpFunc_api_Event := G_unf c0_slices_stableCmpFunc_api_Event.eq_1
@[simp] def g1_slices_stableCmpFunc_api_Event := G_unf c1_slices_stableCmpFunc_api_Event.eq_1
@[simp] def g2_slices_stableCmpFunc_api_Event := G_unf c2_slices_stableCmpFunc_api_Event.eq_1
@[simp] def g3_slices_stableCmpFunc_api_Event := G_unf c3_slices_stableCmpFunc_api_Event.eq_1
@[simp] def g4_slices_stableCmpFunc_api_Event := G_unf c4_slices_stableCmpFunc_api_Event.eq_1
@[simp] def g5_slices_stableCmpFunc_api_Event := G_unf c5_slices_stableCmpFunc_api_Event.eq_1
@[simp] def g6_slices_stableCmpFunc_api_Event := G_unf c6_slices_stableCmpFunc_api_Event.eq_1
@[simp] def g7_slices_stableCmpFunc_api_Event := G_unf c7_slices_stableCmpFunc_api_Event.eq_1
@[simp] def g_slices_stableCmpFunc_api_Event := G_unf c_slices_stableCmpFunc_api_Event.eq_1
theorem w_slices_stableCmpFunc_api_Event : WC T n_slices_stableCmpFunc_api_Event l h q ↔ G T (fin [] (some []) h.next q) c_slices_stableCmpFunc_api_Event [] (envOf l) h := WC_G T_slices_stableCmpFunc_api_Event
@[simp] def g_cmp_isNaN_int64 := G_unf c_cmp_isNaN_int64.eq_1
theorem w_cmp_isNaN_int64 : WC T n_cmp_isNaN_int64 l h q ↔ G T (fin [.t 2] (some []) h.next q) c_cmp_isNaN_int64 [] (envOf l) h := WC_G T_cmp_isNaN_int64
@[simp] def g0_slices_insertionSortCmpFunc_api_Event := G_unf c0_slices_insertionSortCmpFunc_api_Event.eq_1
@[simp] def g1_slices_insertionSortCmpFunc_api_Event := G_unf c1_slices_insertionSortCmpFunc_api_Event.eq_1
@[simp] def g2_slices_insertionSortCmpFunc_api_Event := G_unf c2_slices_insertionSortCmpFunc_api_Event.eq_1
@[simp] def g_slices_insertionSortCmpFunc_api_Event := G_unf c_slices_insertionSortCmpFunc_api_Event.eq_1
theorem w_slices_insertionSortCmpFunc_api_Event : WC T n_slices_insertionSortCmpFunc_api_Event l h q ↔ G T (fin [] (some []) h.next q) c_slices_insertionSortCmpFunc_api_Event [] (envOf l) h := WC_G T_slices_insertionSortCmpFunc_api_Event
@[simp] def g0_slices_symMergeCmpFunc_api_Event := G_unf c0_slices_symMergeCmpFunc_api_Event.eq_1
@[simp] def g1_slices_symMergeCmpFunc_api_Event := G_unf c1_slices_symMergeCmpFunc_api_Event.eq_1
@[simp] def g2_slices_symMergeCmpFunc_api_Event := G_unf c2_slices_symMergeCmpFunc_api_Event.eq_1
@[simp] def g3_slices_symMergeCmpFunc_api_Event := G_unf c3_slices_symMergeCmpFunc_api_Event.eq_1
@[simp] def g4_slices_symMergeCmpFunc_api_Event := G_unf c4_slices_symMergeCmpFunc_api_Event.eq_1
@[simp] def g5_slices_symMergeCmpFunc_api_Event := G_unf c5_slices_symMergeCmpFunc_api_Event.eq_1
@[simp] def g6_slices_symMergeCmpFunc_api_Event := G_unf c6_slices_symMergeCmpFunc_api_Event.eq_1
@[simp] def g7_slices_symMergeCmpFunc_api_Event := G_unf c7_slices_symMergeCmpFunc_api_Event.eq_1
@[simp] def g8_slices_symMergeCmpFunc_api_Event := G_unf c8_slices_symMergeCmpFunc_api_Event.eq_1
@[simp] def g9_slices_symMergeCmpFunc_api_Event := G_unf c9_slices_symMergeCmpFunc_api_Event.eq_1
@[simp] def g10_slices_symMergeCmpFunc_api_Event := G_unf c10_slices_symMergeCmpFunc_api_Event.eq_1
@[simp] def g11_slices_symMergeCmpFunc_api_Event := G_unf c11_slices_symMergeCmpFunc_api_Event.eq_1
@[simp] def g12_slices_symMergeCmpFunc_api_Event := G_unf c12_slices_symMergeCmpFunc_api_Event.eq_1
@[simp] def g13_slices_symMergeCmpFunc_api_Event := G_unf c13_slices_symMergeCmpFunc_api_Event.eq_1
@[simp] def g14_slices_symMergeCmpFunc_api_Event := G_unf c14_slices_symMergeCmpFunc_api_Event.eq_1
@[simp] def g15_slices_symMergeCmpFunc_api_Event := G_unf c15_slices_symMergeCmpFunc_api_Event.eq_1
@[simp] def g16_slices_symMergeCmpFunc_api_Event := G_unf c16_slices_symMergeCmpFunc_api_Event.eq_1
@[simp] def g17_slices_symMergeCmpFunc_api_Event := G_unf c17_slices_symMergeCmpFunc_api_Event.eq_1
@[simp] def g18_slices_symMergeCmpFunc_api_Event := G_unf c18_slices_symMergeCmpFunc_api_Event.eq_1
@[simp] def g19_slices_symMergeCmpFunc_api_Event := G_unf c19_slices_symMergeCmpFunc_api_Event.eq_1
@[simp] def g20_slices_symMergeCmpFunc_api_Event := G_unf c20_slices_symMergeCmpFunc_api_Event.eq_1
@[simp] def g21_slices_symMergeCmpFunc_api_Event := G_unf c21_slices_symMergeCmpFunc_api_Event.eq_1
@[simp] def g_slices_symMergeCmpFunc_api_Event := G_unf c_slices_symMergeCmpFunc_api_Event.eq_1
theorem w_slices_symMergeCmpFunc_api_Event : WC T n_slices_symMergeCmpFunc_api_Event l h q ↔ G T (fin [] (some []) h.next q) c_slices_symMergeCmpFunc_api_Event [] (envOf l) h := WC_G T_slices_symMergeCmpFunc_api_Event
@[simp] def g0_slices_rotateCmpFunc_api_Event := G_unf c0_slices_rotateCmpFunc_api_Event.eq_1
@[simp] def g1_slices_rotateCmpFunc_api_Event := G_unf c1_slices_rotateCmpFunc_api_Event.eq_1
@[simp] def g2_slices_rotateCmpFunc_api_Event := G_unf c2_slices_rotateCmpFunc_api_Event.eq_1
@[simp] def g3_slices_rotateCmpFunc_api_Event := G_unf c3_slices_rotateCmpFunc_api_Event.eq_1
@[simp] def g_slices_rotateCmpFunc_api_Event := G_unf c_slices_rotateCmpFunc_api_Event.eq_1
theorem w_slices_rotateCmpFunc_api_Event : WC T n_slices_rotateCmpFunc_api_Event l h q ↔ G T (fin [] (some []) h.next q) c_slices_rotateCmpFunc_api_Event [] (envOf l) h := WC_G T_slices_rotateCmpFunc_api_Event
@[simp] def g0_slices_swapRangeCmpFunc_api_Event := G_unf c0_slices_swapRangeCmpFunc_api_Event.eq_1
@[simp] def g1_slices_swapRangeCmpFunc_api_Event := G_unf c1_slices_swapRangeCmpFunc_api_Event.eq_1
@[simp] def g_slices_swapRangeCmpFunc_api_Event := G_unf c_slices_swapRangeCmpFunc_api_Event.eq_1
theorem w_slices_swapRangeCmpFunc_api_Event : WC T n_slices_swapRangeCmpFunc_api_Event l h q ↔ G T (fin [] (some []) h.next q) c_slices_swapRangeCmpFunc_api_Event [] (envOf l) h := WC_G T_slices_swapRangeCmpFunc_api_Event
end
theorem tab : TabOK Tryz.prog (compAny Tryz.prog) T :=
  tab_spec (show SpecOK Tryz.prog n_uart_take sTake from take_ok) <|
  tab_spec (show SpecOK Tryz.prog n_uart_put sPut from put_ok) <|
  tab_ins h_pianolalaw15_BusNumbers <|
  tab_ins h_bus_New <|
  tab_ins h_pianolaref15_New <|
  tab_ins h_bus_Bus_Load <|
  tab_ins h_pianolaref15_Bus_Load <|
  tab_ins h_bus_Bus_Store <|
  tab_ins h_pianolaref15_Bus_Store <|
  tab_ins h_pianolalaw15_same <|
  tab_ins h_bus_Bus_Fire <|
  tab_ins h_pianolaref15_Bus_Fire <|
  tab_ins h_pianolalaw15_known <|
  tab_ins h_ram_New <|
  tab_ins h_wheel_New <|
  tab_ins h_ram_Ram_Put <|
  tab_ins h_ram_Ram_Size <|
  tab_ins h_lines_New <|
  tab_ins h_timer_New <|
  tab_ins h_uart_New <|
  tab_ins h_dma_New <|
  tab_ins h_disk_New <|
  tab_ins h_pianolaref2_New <|
  tab_ins h_ram_Ram_Load <|
  tab_ins h_bus_window <|
  tab_ins h_bus_Bus_read <|
  tab_ins h_bus_Bus_gather <|
  tab_ins h_pianolaref2_Ram_Load <|
  tab_ins h_pianolaref15_where <|
  tab_ins h_pianolaref15_Bus_Word <|
  tab_ins h_pianolaref15_Bus_gather <|
  tab_ins h_ram_Ram_Store <|
  tab_ins h_bus_Bus_write <|
  tab_ins h_pianolaref2_Ram_Store <|
  tab_ins h_pianolaref15_Bus_Set <|
  tab_ins h_bus_Bus_Next <|
  tab_ins h_pianolaref15_Bus_Next <|
  tab_ins h_bus_Bus_Raised <|
  tab_ins h_pianolaref15_Bus_Raised <|
  tab_ins h_pianolabook_Same_api_Event <|
  tab_ins h_bus_Bus_Events <|
  tab_ins h_bus_Bus_Out <|
  tab_ins h_bus_Bus_Disk <|
  tab_ins h_wheel_Wheel_Take <|
  tab_ins h_bus_Bus_fire <|
  tab_ins h_pianolaref9_Wheel_Take <|
  tab_ins h_pianolaref15_Bus_B1 <|
  tab_ins h_bus_Bus_Ram <|
  tab_ins h_pianolabook_Within <|
  tab_ins h_ram_Ram_Bytes <|
  tab_ins h_ram_Ram_there <|
  tab_ins h_ram_Ram_touch <|
  tab_ins h_ram_Ram_even <|
  tab_ins h_lines_Lines_Read <|
  tab_ins h_timer_Timer_Read <|
  tab_ins h_uart_Uart_Read <|
  tab_ins h_dma_Dma_Read <|
  tab_ins h_disk_Disk_Read <|
  tab_ins h_lines_Lines_Set <|
  tab_ins h_bus_Bus_line <|
  tab_ins h_pianolaref2_Ram_In <|
  tab_ins h_pianolaref15_bit <|
  tab_ins h_pianolaref15_Bus_Line <|
  tab_ins h_lines_Lines_Write <|
  tab_ins h_timer_Timer_Write <|
  tab_ins h_uart_Uart_Write <|
  tab_ins h_dma_Dma_Write <|
  tab_ins h_disk_Disk_Write <|
  tab_ins h_pianolaref2_Ram_touch <|
  tab_ins h_pianolaref15_Bus_timer <|
  tab_ins h_pianolaref15_Bus_uart <|
  tab_ins h_pianolaref15_Bus_dma <|
  tab_ins h_pianolaref15_Bus_disk <|
  tab_ins h_wheel_Wheel_Next <|
  tab_ins h_lines_Lines_Raised <|
  tab_ins h_wheel_Wheel_All <|
  tab_ins h_uart_Uart_Out <|
  tab_ins h_disk_Disk_Bytes <|
  tab_ins h_slices_Delete_api_Event_api_Event <|
  tab_ins h_timer_Timer_Fire <|
  tab_ins h_uart_Uart_Fire <|
  tab_ins h_dma_Dma_Fire <|
  tab_ins h_disk_Disk_Fire <|
  tab_ins h_pianolaref9_Wheel_Arm <|
  tab_ins h_pianolaref15_Bus_move <|
  tab_ins h_pianolaref15_Bus_sector <|
  tab_ins h_slices_Clone_byte_byte <|
  tab_ins h_uart_bit <|
  tab_ins h_timer_Timer_Line <|
  tab_ins h_uart_Uart_Line <|
  tab_ins h_dma_Dma_Line <|
  tab_ins h_disk_Disk_Line <|
  tab_ins h_timer_Timer_arm <|
  tab_ins h_wheel_Wheel_Cancel <|
  tab_ins h_uart_Uart_arm <|
  tab_ins h_dma_Dma_begin <|
  tab_ins h_disk_Disk_begin <|
  tab_ins h_pianolaref9_Wheel_Cancel <|
  tab_ins h_slices_Clone_api_Event_api_Event <|
  tab_ins h_dma_Dma_move <|
  tab_ins h_disk_Disk_do <|
  tab_ins h_pianolaref2_Ram_Bytes <|
  tab_ins h_pianolaref2_Ram_Put <|
  tab_ins h_wheel_Wheel_Arm <|
  tab_ins h_wheel_Wheel_find <|
  tab_ins h_disk_Disk_Sectors <|
  tab_ins h_slices_SortStableFunc_api_Event_api_Event <|
  tab_ins h_wheel_Wheel_Arm_1 <|
  tab_ins h_cmp_Compare_int64 <|
  tab_ins h_slices_IndexFunc_api_Event_api_Event <|
  tab_ins h_wheel_Wheel_find_1 <|
  tab_ins h_slices_stableCmpFunc_api_Event <|
  tab_ins h_cmp_isNaN_int64 <|
  tab_ins h_slices_insertionSortCmpFunc_api_Event <|
  tab_ins h_slices_symMergeCmpFunc_api_Event <|
  tab_ins h_slices_rotateCmpFunc_api_Event <|
  tab_ins h_slices_swapRangeCmpFunc_api_Event <|
  tab_none
end Go.Proofs.YtpdfdemoflofhaaGreat.Cd
