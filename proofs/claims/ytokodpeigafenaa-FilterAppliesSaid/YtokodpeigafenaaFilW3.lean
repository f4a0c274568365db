/- Walks and mirrors of Filter laws. -/
import Derived.Test.YtokodpeigafenaaFilW2
set_option linter.unusedSimpArgs false
set_option linter.unusedVariables false
set_option linter.unusedSectionVars false
namespace Go.Wk
open Go.HL
open Go.Proofs hiding encI
variable [DM]

def ref15_Apply_j14 (r_3 : List T_api_Addr) (out_2_1 : List T_api_Addr) (i_1 : Int) (K_1 : (List T_api_Addr) → (List T_api_Addr) → (List T_api_Addr) → (List T_api_Addr) → (List T_api_Addr) → Int → Prop) (nowOff_3 : Bool) (out_3_3 : List T_api_Addr) (out_4_2 : List T_api_Addr) (out_6_2 : List T_api_Addr) (out_1_2 : List T_api_Addr) : Prop :=
  (nowOff_3 = true → ((out_2_1.length + ([(gi r_3 i_1)] : List T_api_Addr).length) * 17 ≤ 140737488355328) ∧ ((I64 (i_1 + 1)) ∧ (K_1 out_1_2 (out_2_1 ++ ([(gi r_3 i_1)] : List T_api_Addr)) out_3_3 out_4_2 out_6_2 (i_1 + 1)))) ∧ (nowOff_3 = false → (I64 (i_1 + 1)) ∧ (K_1 out_1_2 out_2_1 out_3_3 out_4_2 out_6_2 (i_1 + 1)))
def ref15_Apply_j13 (r_3 : List T_api_Addr) (out_1_1 : List T_api_Addr) (out_2_1 : List T_api_Addr) (i_1 : Int) (K_1 : (List T_api_Addr) → (List T_api_Addr) → (List T_api_Addr) → (List T_api_Addr) → (List T_api_Addr) → Int → Prop) (nowOff_3 : Bool) (out_3_3 : List T_api_Addr) (out_4_2 : List T_api_Addr) (nowOn_3 : Bool) (out_6_2 : List T_api_Addr) : Prop :=
  (nowOn_3 = true → ((out_1_1.length + ([(gi r_3 i_1)] : List T_api_Addr).length) * 17 ≤ 140737488355328) ∧ (ref15_Apply_j14 r_3 out_2_1 i_1 K_1 nowOff_3 out_3_3 out_4_2 out_6_2 (out_1_1 ++ ([(gi r_3 i_1)] : List T_api_Addr)))) ∧ (nowOn_3 = false → ref15_Apply_j14 r_3 out_2_1 i_1 K_1 nowOff_3 out_3_3 out_4_2 out_6_2 out_1_1)
def ref15_Apply_j11 (r_3 : List T_api_Addr) (out_1_1 : List T_api_Addr) (out_2_1 : List T_api_Addr) (out_6_1 : List T_api_Addr) (i_1 : Int) (K_1 : (List T_api_Addr) → (List T_api_Addr) → (List T_api_Addr) → (List T_api_Addr) → (List T_api_Addr) → Int → Prop) (nowOff_3 : Bool) (out_3_3 : List T_api_Addr) (out_4_2 : List T_api_Addr) (nowOn_3 : Bool) (ask_2 : Bool) : Prop :=
  (ask_2 = true → ((out_6_1.length + ([(gi r_3 i_1)] : List T_api_Addr).length) * 17 ≤ 140737488355328) ∧ (ref15_Apply_j13 r_3 out_1_1 out_2_1 i_1 K_1 nowOff_3 out_3_3 out_4_2 nowOn_3 (out_6_1 ++ ([(gi r_3 i_1)] : List T_api_Addr)))) ∧ (ask_2 = false → ref15_Apply_j13 r_3 out_1_1 out_2_1 i_1 K_1 nowOff_3 out_3_3 out_4_2 nowOn_3 out_6_1)
def ref15_Apply_j12 (s_Exclude : Bool) (r_3 : List T_api_Addr) (out_1_1 : List T_api_Addr) (out_2_1 : List T_api_Addr) (out_6_1 : List T_api_Addr) (i_1 : Int) (K_1 : (List T_api_Addr) → (List T_api_Addr) → (List T_api_Addr) → (List T_api_Addr) → (List T_api_Addr) → Int → Prop) (r_4 : Bool) (r_5 : Bool) (r_6 : Bool) (nowOff_3 : Bool) (out_3_3 : List T_api_Addr) (out_4_2 : List T_api_Addr) (nowOn_3 : Bool) (ask_1 : Bool) (b_11 : Bool) : Prop :=
  (b_11 = true → (r_6 = true → (r_4 = true → ref15_Apply_j11 r_3 out_1_1 out_2_1 out_6_1 i_1 K_1 nowOff_3 out_3_3 out_4_2 nowOn_3 true) ∧ (r_4 = false → (s_Exclude = true → ref15_Apply_j11 r_3 out_1_1 out_2_1 out_6_1 i_1 K_1 nowOff_3 out_3_3 out_4_2 nowOn_3 (!r_5)) ∧ (s_Exclude = false → ref15_Apply_j11 r_3 out_1_1 out_2_1 out_6_1 i_1 K_1 nowOff_3 out_3_3 out_4_2 nowOn_3 false))) ∧ (r_6 = false → ref15_Apply_j11 r_3 out_1_1 out_2_1 out_6_1 i_1 K_1 nowOff_3 out_3_3 out_4_2 nowOn_3 false)) ∧ (b_11 = false → ref15_Apply_j11 r_3 out_1_1 out_2_1 out_6_1 i_1 K_1 nowOff_3 out_3_3 out_4_2 nowOn_3 ask_1)
def ref15_Apply_j10 (s_Exclude : Bool) (kind : Int) (r_3 : List T_api_Addr) (out_1_1 : List T_api_Addr) (out_2_1 : List T_api_Addr) (out_6_1 : List T_api_Addr) (i_1 : Int) (K_1 : (List T_api_Addr) → (List T_api_Addr) → (List T_api_Addr) → (List T_api_Addr) → (List T_api_Addr) → Int → Prop) (r_4 : Bool) (r_5 : Bool) (r_6 : Bool) (nowOff_3 : Bool) (out_3_3 : List T_api_Addr) (out_4_2 : List T_api_Addr) (nowOn_3 : Bool) (ask_1 : Bool) : Prop :=
  (kind = 6 → ref15_Apply_j12 s_Exclude r_3 out_1_1 out_2_1 out_6_1 i_1 K_1 r_4 r_5 r_6 nowOff_3 out_3_3 out_4_2 nowOn_3 ask_1 true) ∧ (¬ (kind = 6) → ref15_Apply_j12 s_Exclude r_3 out_1_1 out_2_1 out_6_1 i_1 K_1 r_4 r_5 r_6 nowOff_3 out_3_3 out_4_2 nowOn_3 ask_1 (decide (kind = 4)))
def ref15_Apply_j8 (s_Exclude : Bool) (kind : Int) (r_3 : List T_api_Addr) (out_1_1 : List T_api_Addr) (out_2_1 : List T_api_Addr) (out_6_1 : List T_api_Addr) (i_1 : Int) (K_1 : (List T_api_Addr) → (List T_api_Addr) → (List T_api_Addr) → (List T_api_Addr) → (List T_api_Addr) → Int → Prop) (r_4 : Bool) (r_5 : Bool) (r_6 : Bool) (nowOff_3 : Bool) (out_3_3 : List T_api_Addr) (out_4_2 : List T_api_Addr) (nowOn_3 : Bool) : Prop :=
  (kind = 3 → (r_4 = true → ref15_Apply_j10 s_Exclude kind r_3 out_1_1 out_2_1 out_6_1 i_1 K_1 r_4 r_5 r_6 nowOff_3 out_3_3 out_4_2 nowOn_3 (!r_6)) ∧ (r_4 = false → ref15_Apply_j10 s_Exclude kind r_3 out_1_1 out_2_1 out_6_1 i_1 K_1 r_4 r_5 r_6 nowOff_3 out_3_3 out_4_2 nowOn_3 false)) ∧ (¬ (kind = 3) → ref15_Apply_j10 s_Exclude kind r_3 out_1_1 out_2_1 out_6_1 i_1 K_1 r_4 r_5 r_6 nowOff_3 out_3_3 out_4_2 nowOn_3 false)
def ref15_Apply_j9 (s_Exclude : Bool) (kind : Int) (r_3 : List T_api_Addr) (out_1_1 : List T_api_Addr) (out_2_1 : List T_api_Addr) (out_4_1 : List T_api_Addr) (out_6_1 : List T_api_Addr) (i_1 : Int) (K_1 : (List T_api_Addr) → (List T_api_Addr) → (List T_api_Addr) → (List T_api_Addr) → (List T_api_Addr) → Int → Prop) (r_4 : Bool) (r_5 : Bool) (r_6 : Bool) (out_3_2 : List T_api_Addr) (nowOn_2 : Bool) (nowOff_3 : Bool) (b_8 : Bool) : Prop :=
  (b_8 = true → (kind = 2 → ((out_3_2.length + ([(gi r_3 i_1)] : List T_api_Addr).length) * 17 ≤ 140737488355328) ∧ (ref15_Apply_j8 s_Exclude kind r_3 out_1_1 out_2_1 out_6_1 i_1 K_1 r_4 r_5 r_6 nowOff_3 (out_3_2 ++ ([(gi r_3 i_1)] : List T_api_Addr)) out_4_1 true)) ∧ (¬ (kind = 2) → ((out_4_1.length + ([(gi r_3 i_1)] : List T_api_Addr).length) * 17 ≤ 140737488355328) ∧ (ref15_Apply_j8 s_Exclude kind r_3 out_1_1 out_2_1 out_6_1 i_1 K_1 r_4 r_5 r_6 nowOff_3 out_3_2 (out_4_1 ++ ([(gi r_3 i_1)] : List T_api_Addr)) true))) ∧ (b_8 = false → ref15_Apply_j8 s_Exclude kind r_3 out_1_1 out_2_1 out_6_1 i_1 K_1 r_4 r_5 r_6 nowOff_3 out_3_2 out_4_1 nowOn_2)
def ref15_Apply_j7 (s_Exclude : Bool) (kind : Int) (ex_1 : Bool) (r_3 : List T_api_Addr) (out_1_1 : List T_api_Addr) (out_2_1 : List T_api_Addr) (out_4_1 : List T_api_Addr) (out_6_1 : List T_api_Addr) (i_1 : Int) (K_1 : (List T_api_Addr) → (List T_api_Addr) → (List T_api_Addr) → (List T_api_Addr) → (List T_api_Addr) → Int → Prop) (r_4 : Bool) (r_5 : Bool) (r_6 : Bool) (out_3_2 : List T_api_Addr) (nowOn_2 : Bool) (nowOff_3 : Bool) : Prop :=
  (r_6 = true → ((!r_4) = true → ((!r_5) = true → (s_Exclude = true → (ex_1 = true → ref15_Apply_j9 s_Exclude kind r_3 out_1_1 out_2_1 out_4_1 out_6_1 i_1 K_1 r_4 r_5 r_6 out_3_2 nowOn_2 nowOff_3 true) ∧ (ex_1 = false → ref15_Apply_j9 s_Exclude kind r_3 out_1_1 out_2_1 out_4_1 out_6_1 i_1 K_1 r_4 r_5 r_6 out_3_2 nowOn_2 nowOff_3 (decide (kind = 6)))) ∧ (s_Exclude = false → ref15_Apply_j9 s_Exclude kind r_3 out_1_1 out_2_1 out_4_1 out_6_1 i_1 K_1 r_4 r_5 r_6 out_3_2 nowOn_2 nowOff_3 false)) ∧ ((!r_5) = false → ref15_Apply_j9 s_Exclude kind r_3 out_1_1 out_2_1 out_4_1 out_6_1 i_1 K_1 r_4 r_5 r_6 out_3_2 nowOn_2 nowOff_3 false)) ∧ ((!r_4) = false → ref15_Apply_j9 s_Exclude kind r_3 out_1_1 out_2_1 out_4_1 out_6_1 i_1 K_1 r_4 r_5 r_6 out_3_2 nowOn_2 nowOff_3 false)) ∧ (r_6 = false → ref15_Apply_j9 s_Exclude kind r_3 out_1_1 out_2_1 out_4_1 out_6_1 i_1 K_1 r_4 r_5 r_6 out_3_2 nowOn_2 nowOff_3 false)
def ref15_Apply_j6 (s_Exclude : Bool) (kind : Int) (ex_1 : Bool) (r_3 : List T_api_Addr) (out_1_1 : List T_api_Addr) (out_2_1 : List T_api_Addr) (out_4_1 : List T_api_Addr) (out_6_1 : List T_api_Addr) (i_1 : Int) (K_1 : (List T_api_Addr) → (List T_api_Addr) → (List T_api_Addr) → (List T_api_Addr) → (List T_api_Addr) → Int → Prop) (r_4 : Bool) (r_5 : Bool) (r_6 : Bool) (out_3_2 : List T_api_Addr) (nowOn_2 : Bool) (nowOff_2 : Bool) : Prop :=
  (r_6 = true → ((!r_4) = true → ((!r_5) = true → ((!s_Exclude) = true → (ex_1 = true → ref15_Apply_j7 s_Exclude kind ex_1 r_3 out_1_1 out_2_1 out_4_1 out_6_1 i_1 K_1 r_4 r_5 r_6 out_3_2 nowOn_2 true) ∧ (ex_1 = false → ref15_Apply_j7 s_Exclude kind ex_1 r_3 out_1_1 out_2_1 out_4_1 out_6_1 i_1 K_1 r_4 r_5 r_6 out_3_2 nowOn_2 nowOff_2)) ∧ ((!s_Exclude) = false → ref15_Apply_j7 s_Exclude kind ex_1 r_3 out_1_1 out_2_1 out_4_1 out_6_1 i_1 K_1 r_4 r_5 r_6 out_3_2 nowOn_2 nowOff_2)) ∧ ((!r_5) = false → ref15_Apply_j7 s_Exclude kind ex_1 r_3 out_1_1 out_2_1 out_4_1 out_6_1 i_1 K_1 r_4 r_5 r_6 out_3_2 nowOn_2 nowOff_2)) ∧ ((!r_4) = false → ref15_Apply_j7 s_Exclude kind ex_1 r_3 out_1_1 out_2_1 out_4_1 out_6_1 i_1 K_1 r_4 r_5 r_6 out_3_2 nowOn_2 nowOff_2)) ∧ (r_6 = false → ref15_Apply_j7 s_Exclude kind ex_1 r_3 out_1_1 out_2_1 out_4_1 out_6_1 i_1 K_1 r_4 r_5 r_6 out_3_2 nowOn_2 nowOff_2)
def ref15_Apply_j4 (s_Exclude : Bool) (kind : Int) (ex_1 : Bool) (r_3 : List T_api_Addr) (out_1_1 : List T_api_Addr) (out_2_1 : List T_api_Addr) (out_4_1 : List T_api_Addr) (out_6_1 : List T_api_Addr) (i_1 : Int) (K_1 : (List T_api_Addr) → (List T_api_Addr) → (List T_api_Addr) → (List T_api_Addr) → (List T_api_Addr) → Int → Prop) (r_4 : Bool) (r_5 : Bool) (r_6 : Bool) (out_3_2 : List T_api_Addr) (nowOn_1 : Bool) (nowOff_1 : Bool) : Prop :=
  (ex_1 = true → ((!r_6) = true → ref15_Apply_j6 s_Exclude kind ex_1 r_3 out_1_1 out_2_1 out_4_1 out_6_1 i_1 K_1 r_4 r_5 r_6 out_3_2 false false) ∧ ((!r_6) = false → ref15_Apply_j6 s_Exclude kind ex_1 r_3 out_1_1 out_2_1 out_4_1 out_6_1 i_1 K_1 r_4 r_5 r_6 out_3_2 nowOn_1 nowOff_1)) ∧ (ex_1 = false → ref15_Apply_j6 s_Exclude kind ex_1 r_3 out_1_1 out_2_1 out_4_1 out_6_1 i_1 K_1 r_4 r_5 r_6 out_3_2 nowOn_1 nowOff_1)
def ref15_Apply_j5 (s_Exclude : Bool) (kind : Int) (ex_1 : Bool) (r_3 : List T_api_Addr) (out_1_1 : List T_api_Addr) (out_2_1 : List T_api_Addr) (out_3_1 : List T_api_Addr) (out_4_1 : List T_api_Addr) (out_6_1 : List T_api_Addr) (i_1 : Int) (K_1 : (List T_api_Addr) → (List T_api_Addr) → (List T_api_Addr) → (List T_api_Addr) → (List T_api_Addr) → Int → Prop) (r_4 : Bool) (r_5 : Bool) (r_6 : Bool) (b_6 : Bool) : Prop :=
  (b_6 = true → ((out_3_1.length + ([(gi r_3 i_1)] : List T_api_Addr).length) * 17 ≤ 140737488355328) ∧ (ref15_Apply_j4 s_Exclude kind ex_1 r_3 out_1_1 out_2_1 out_4_1 out_6_1 i_1 K_1 r_4 r_5 r_6 (out_3_1 ++ ([(gi r_3 i_1)] : List T_api_Addr)) true false)) ∧ (b_6 = false → ref15_Apply_j4 s_Exclude kind ex_1 r_3 out_1_1 out_2_1 out_4_1 out_6_1 i_1 K_1 r_4 r_5 r_6 out_3_1 r_4 r_5)
def ref15_Apply_l1 (s_Exclude : Bool) (s_On : List T_api_Addr) (s_Off : List T_api_Addr) (kind : Int) (b : List T_api_Addr) (Q : Bool → (List T_api_Addr) → (List T_api_Addr) → (List T_api_Addr) → (List T_api_Addr) → Bool → (List T_api_Addr) → Bool → Prop) (b_4 : Bool) (ex_1 : Bool) (out_0_1 : Bool) (out_5_1 : Bool) (out_7_1 : Bool) (r_3 : List T_api_Addr) (K_1 : (List T_api_Addr) → (List T_api_Addr) → (List T_api_Addr) → (List T_api_Addr) → (List T_api_Addr) → Int → Prop) (out_1_1 : List T_api_Addr) (out_2_1 : List T_api_Addr) (out_3_1 : List T_api_Addr) (out_4_1 : List T_api_Addr) (out_6_1 : List T_api_Addr) (i_1 : Int) : Prop :=
  (i_1 < (r_3.length : Int) → ((0 : Int) ≤ i_1 ∧ i_1 < (r_3.length : Int)) ∧ (ref11_Has_W s_On (gi r_3 i_1) (fun r_4 => ref11_Has_W s_Off (gi r_3 i_1) (fun r_5 => ref11_Has_W b (gi r_3 i_1) (fun r_6 => (b_4 = true → ref15_Apply_j5 s_Exclude kind ex_1 r_3 out_1_1 out_2_1 out_3_1 out_4_1 out_6_1 i_1 K_1 r_4 r_5 r_6 r_6) ∧ (b_4 = false → ref15_Apply_j5 s_Exclude kind ex_1 r_3 out_1_1 out_2_1 out_3_1 out_4_1 out_6_1 i_1 K_1 r_4 r_5 r_6 false)))))) ∧ (¬ (i_1 < (r_3.length : Int)) → Q out_0_1 out_1_1 out_2_1 out_3_1 out_4_1 out_5_1 out_6_1 out_7_1)
def ref15_Apply_j3 (s_Exclude : Bool) (s_On : List T_api_Addr) (s_Off : List T_api_Addr) (kind : Int) (b : List T_api_Addr) (Q : Bool → (List T_api_Addr) → (List T_api_Addr) → (List T_api_Addr) → (List T_api_Addr) → Bool → (List T_api_Addr) → Bool → Prop) (b_4 : Bool) (ex_1 : Bool) (out_0_1 : Bool) (out_5_1 : Bool) (out_7_1 : Bool) : Prop :=
  ref11_Or_W s_On s_Off (fun r_1 => ref11_Of_W b (fun r_2 => ref11_Or_W r_1 r_2 (fun r_3 => loopW (fun (K_1 : (List T_api_Addr × List T_api_Addr × List T_api_Addr × List T_api_Addr × List T_api_Addr × Int) → Prop) (s : List T_api_Addr × List T_api_Addr × List T_api_Addr × List T_api_Addr × List T_api_Addr × Int) => ref15_Apply_l1 s_Exclude s_On s_Off kind b Q b_4 ex_1 out_0_1 out_5_1 out_7_1 r_3 (fun out_1_1 out_2_1 out_3_1 out_4_1 out_6_1 i_1 => K_1 (out_1_1, out_2_1, out_3_1, out_4_1, out_6_1, i_1)) s.1 s.2.1 s.2.2.1 s.2.2.2.1 s.2.2.2.2.1 s.2.2.2.2.2) ([], [], [], [], [], 0))))
def ref15_Apply_j2 (s_Exclude : Bool) (s_On : List T_api_Addr) (s_Off : List T_api_Addr) (kind : Int) (b : List T_api_Addr) (Q : Bool → (List T_api_Addr) → (List T_api_Addr) → (List T_api_Addr) → (List T_api_Addr) → Bool → (List T_api_Addr) → Bool → Prop) (b_4 : Bool) (ex_1 : Bool) (out_0_1 : Bool) (out_5_1 : Bool) : Prop :=
  (s_Exclude = true → ref15_Apply_j3 s_Exclude s_On s_Off kind b Q b_4 ex_1 out_0_1 out_5_1 (decide (kind = 3))) ∧ (s_Exclude = false → ref15_Apply_j3 s_Exclude s_On s_Off kind b Q b_4 ex_1 out_0_1 out_5_1 false)
def ref15_Apply_j1 (s_Exclude : Bool) (s_On : List T_api_Addr) (s_Off : List T_api_Addr) (kind : Int) (b : List T_api_Addr) (Q : Bool → (List T_api_Addr) → (List T_api_Addr) → (List T_api_Addr) → (List T_api_Addr) → Bool → (List T_api_Addr) → Bool → Prop) (b_4 : Bool) (ex_1 : Bool) : Prop :=
  (ex_1 = true → ref15_Apply_j2 s_Exclude s_On s_Off kind b Q b_4 ex_1 true true) ∧ (ex_1 = false → ref15_Apply_j2 s_Exclude s_On s_Off kind b Q b_4 ex_1 s_Exclude false)
def ref15_Apply_W (s_Exclude : Bool) (s_On : List T_api_Addr) (s_Off : List T_api_Addr) (kind : Int) (b : List T_api_Addr) (Q : Bool → (List T_api_Addr) → (List T_api_Addr) → (List T_api_Addr) → (List T_api_Addr) → Bool → (List T_api_Addr) → Bool → Prop) : Prop :=
  (kind = 1 → (kind = 2 → ref15_Apply_j1 s_Exclude s_On s_Off kind b Q true true) ∧ (¬ (kind = 2) → ref15_Apply_j1 s_Exclude s_On s_Off kind b Q true (decide (kind = 4)))) ∧ (¬ (kind = 1) → (kind = 3 → (kind = 2 → ref15_Apply_j1 s_Exclude s_On s_Off kind b Q true true) ∧ (¬ (kind = 2) → ref15_Apply_j1 s_Exclude s_On s_Off kind b Q true (decide (kind = 4)))) ∧ (¬ (kind = 3) → (kind = 2 → ref15_Apply_j1 s_Exclude s_On s_Off kind b Q (decide (kind = 5)) true) ∧ (¬ (kind = 2) → ref15_Apply_j1 s_Exclude s_On s_Off kind b Q (decide (kind = 5)) (decide (kind = 4)))))
set_option maxHeartbeats 40000000 in
set_option maxRecDepth 100000 in
theorem ref15_Apply_walk {F : Fz} {fr : List Ow} {h0 : Heap} (s_Exclude : Bool) (s_On : List T_api_Addr) (s_Off : List T_api_Addr) (kind : Int) (b : List T_api_Addr) (vs_On : Value) (vs_Off : Value) (vb : Value) (hS : St F (fr) h0) (hL_s_On : SliceF F h0 17 e_api_Addr vs_On s_On) (hL_s_Off : SliceF F h0 17 e_api_Addr vs_Off s_Off) (hL_b : SliceF F h0 17 e_api_Addr vb b) {Q : Bool → (List T_api_Addr) → (List T_api_Addr) → (List T_api_Addr) → (List T_api_Addr) → Bool → (List T_api_Addr) → Bool → Prop} (hM : ref15_Apply_W s_Exclude s_On s_Off kind b Q) :
    HC Try.prog 17 #[.agg #[.bool s_Exclude, vs_On, vs_Off], .int .i64 kind, vb] h0 fun u h' => ∃ (F' : Fz) (r_0_1 : Bool) (r_1_1 : List T_api_Addr) (r_2_1 : List T_api_Addr) (r_3_1 : List T_api_Addr) (r_4_1 : List T_api_Addr) (r_5_1 : Bool) (r_6_1 : List T_api_Addr) (r_7_1 : Bool) (vr_1_1 : Value) (vr_2_1 : Value) (vr_3_1 : Value) (vr_4_1 : Value) (vr_6_1 : Value), u = .agg #[.bool r_0_1, vr_1_1, vr_2_1, vr_3_1, vr_4_1, .bool r_5_1, vr_6_1, .bool r_7_1] ∧ Kp F h0 F' h' ∧ St F' (Ow.own 34 17 e_api_Addr vr_1_1 r_1_1 :: Ow.own 34 17 e_api_Addr vr_2_1 r_2_1 :: Ow.own 34 17 e_api_Addr vr_3_1 r_3_1 :: Ow.own 34 17 e_api_Addr vr_4_1 r_4_1 :: Ow.own 34 17 e_api_Addr vr_6_1 r_6_1 :: fr) h' ∧ (SliceF F' h' 17 e_api_Addr vs_On s_On) ∧ (SliceF F' h' 17 e_api_Addr vs_Off s_Off) ∧ (SliceF F' h' 17 e_api_Addr vb b) ∧ Q r_0_1 r_1_1 r_2_1 r_3_1 r_4_1 r_5_1 r_6_1 r_7_1 := by
  unfold ref15_Apply_W at hM
  have hK := Kp.refl F h0
  refine HC.of_HW (n := 200) Try.func17 rfl rfl (Nat.le_of_ble_eq_true rfl) ?_
  refine HW.seq ?_
  refine HW.region ?_
  refine HO.eff (want_none) rfl (st_box (c := #[.bool s_Exclude, vs_On, vs_Off]) (k' := 3) hS rfl rfl) ?_
  rintro _ h_1 ⟨b_1, rfl, hS, hk⟩
  replace hK := hK.trans hk
  replace hL_s_On := hL_s_On.kp hk
  replace hL_s_Off := hL_s_Off.kp hk
  replace hL_b := hL_b.kp hk
  refine HO.eff (want_none) rfl (st_alloc (c := #[.bool false, .slice none 0 0, .slice none 0 0, .slice none 0 0, .slice none 0 0, .bool false, .slice none 0 0, .bool false]) hS tz_29 rfl) ?_
  rintro _ h_2 ⟨b_2, rfl, hS, hk⟩
  replace hK := hK.trans hk
  replace hL_s_On := hL_s_On.kp hk
  replace hL_s_Off := hL_s_Off.kp hk
  replace hL_b := hL_b.kp hk
  refine HO.nil (thenQ_normal (?_))
  refine HW.seq ?_
  refine HW.region ?_
  refine HO.val (v := .pointer (some ⟨b_1, 0, none⟩)) (want_none) rfl (q_fieldAddr fa_24_0 rfl rfl) ?_
  refine HO.val (v := .bool s_Exclude) (want_none) rfl (q_load to_4 rfl (Blk.cell (hS.box 1 rfl) rfl)) ?_
  refine HO.val (v := .agg #[.bool s_Exclude, .slice none 0 0, .slice none 0 0]) (want_none) rfl (q_build tp_24 rfl) ?_
  refine HO.val (v := .agg #[.bool s_Exclude, .slice none 0 0, .slice none 0 0, .slice none 0 0, .slice none 0 0, .bool false, .slice none 0 0, .bool false]) (want_none) rfl (q_build tp_29 (fill_cons (cs' := #[.bool s_Exclude, .slice none 0 0, .slice none 0 0, .slice none 0 0, .slice none 0 0, .bool false, .slice none 0 0, .bool false]) (vc := #[.bool s_Exclude, .slice none 0 0, .slice none 0 0]) rfl rfl rfl (Nat.le_of_ble_eq_true rfl) rfl rfl)) ?_
  refine HO.eff (want_none) rfl (st_alloc (c := #[.bool false, .slice none 0 0, .slice none 0 0, .slice none 0 0, .slice none 0 0, .bool false, .slice none 0 0, .bool false]) hS tz_29 rfl) ?_
  rintro _ h_3 ⟨b_3, rfl, hS, hk⟩
  replace hK := hK.trans hk
  replace hL_s_On := hL_s_On.kp hk
  replace hL_s_Off := hL_s_Off.kp hk
  replace hL_b := hL_b.kp hk
  refine HO.sto (want_none) rfl (st_storeAgg (c' := #[.bool s_Exclude, .slice none 0 0, .slice none 0 0, .slice none 0 0, .slice none 0 0, .bool false, .slice none 0 0, .bool false]) hS (i := 0) rfl ta_29 rfl rfl rfl (by simp [Value.oneCell']) (Nat.le_of_ble_eq_true rfl) rfl) ?_
  rintro h_4 ⟨hS, hk⟩
  replace hS : St F (Ow.box b_3 29 #[.bool s_Exclude, .slice none 0 0, .slice none 0 0, .slice none 0 0, .slice none 0 0, .bool false, .slice none 0 0, .bool false] :: Ow.box b_2 29 #[.bool false, .slice none 0 0, .slice none 0 0, .slice none 0 0, .slice none 0 0, .bool false, .slice none 0 0, .bool false] :: Ow.box b_1 24 #[.bool s_Exclude, vs_On, vs_Off] :: fr) h_4 := hS
  replace hK := hK.trans hk
  replace hL_s_On := hL_s_On.kp hk
  replace hL_s_Off := hL_s_Off.kp hk
  replace hL_b := hL_b.kp hk
  refine HO.nil (thenQ_normal (?_))
  refine HW.seq_mid (fun f h => ∃ (F' : Fz) (b_4 : Bool) (ex_1 : Bool), f 1 = .int .i64 kind ∧ f 2 = vb ∧ f 3 = .pointer (some ⟨b_1, 0, none⟩) ∧ f 6 = .pointer (some ⟨b_2, 0, none⟩) ∧ f 7 = .pointer (some ⟨b_3, 0, none⟩) ∧ f 8 = .bool b_4 ∧ f 9 = .bool ex_1 ∧ Kp F h0 F' h ∧ St F' (Ow.box b_1 24 #[.bool s_Exclude, vs_On, vs_Off] :: Ow.box b_2 29 #[.bool false, .slice none 0 0, .slice none 0 0, .slice none 0 0, .slice none 0 0, .bool false, .slice none 0 0, .bool false] :: Ow.box b_3 29 #[.bool s_Exclude, .slice none 0 0, .slice none 0 0, .slice none 0 0, .slice none 0 0, .bool false, .slice none 0 0, .bool false] :: fr) h ∧ (SliceF F' h 17 e_api_Addr vs_On s_On) ∧ (SliceF F' h 17 e_api_Addr vs_Off s_Off) ∧ (SliceF F' h 17 e_api_Addr vb b) ∧ ref15_Apply_j1 s_Exclude s_On s_Off kind b Q b_4 ex_1) ?_ ?_
  · refine HW.region ?_
    refine HO.val (v := .int .i64 kind) (want_none) rfl (q_move rfl) ?_
    refine HO.val (v := .bool (decide (kind = 1))) (want_none) rfl (q_eql rfl rfl) ?_
    refine HO.val (v := .bool (decide (kind = 1))) (want_none) rfl (q_move rfl) ?_
    rcases Bool.eq_false_or_eq_true (decide (kind = 1)) with c_1 | c_1
    · replace hM := hM.1 (of_decide_eq_true c_1)
      refine HO.past (past_by rfl rfl c_1) rfl ?_
      refine HO.past (past_by rfl rfl c_1) rfl ?_
      refine HO.val (v := .bool true) (want_none) rfl (q_pickK true rfl c_1 rfl) ?_
      refine HO.val (v := .bool true) (want_none) rfl (q_move rfl) ?_
      refine HO.past (past_some rfl rfl) rfl ?_
      refine HO.past (past_some rfl rfl) rfl ?_
      refine HO.val (v := .bool true) (want_none) rfl (q_pick rfl rfl) ?_
      refine HO.val (v := .int .i64 kind) (want_none) rfl (q_move rfl) ?_
      refine HO.val (v := .bool (decide (kind = 2))) (want_none) rfl (q_eql rfl rfl) ?_
      refine HO.val (v := .bool (decide (kind = 2))) (want_none) rfl (q_move rfl) ?_
      rcases Bool.eq_false_or_eq_true (decide (kind = 2)) with c_2 | c_2
      · replace hM := hM.1 (of_decide_eq_true c_2)
        refine HO.past (past_by rfl rfl c_2) rfl ?_
        refine HO.past (past_by rfl rfl c_2) rfl ?_
        refine HO.val (v := .bool true) (want_none) rfl (q_pickK true rfl c_2 rfl) ?_
        refine HO.val (v := .bool true) (want_none) rfl (q_assign rfl) ?_
        refine HO.val (v := .bool true) (want_none) rfl (q_assign rfl) ?_
        refine HO.nil (thenQ_normal (?_))
        replace hS : St F (Ow.box b_1 24 #[.bool s_Exclude, vs_On, vs_Off] :: Ow.box b_2 29 #[.bool false, .slice none 0 0, .slice none 0 0, .slice none 0 0, .slice none 0 0, .bool false, .slice none 0 0, .bool false] :: Ow.box b_3 29 #[.bool s_Exclude, .slice none 0 0, .slice none 0 0, .slice none 0 0, .slice none 0 0, .bool false, .slice none 0 0, .bool false] :: fr) h_4 := hS.perm2 [2, 1, 0] 3 rfl rfl
        exact ⟨F, true, true, rfl, rfl, rfl, rfl, rfl, rfl, rfl, hK, hS, hL_s_On, hL_s_Off, hL_b, hM⟩
      · replace hM := hM.2 (of_decide_eq_false c_2)
        refine HO.val (v := .int .i64 kind) (want_by rfl rfl c_2) rfl (q_move rfl) ?_
        refine HO.val (v := .bool (decide (kind = 4))) (want_by rfl rfl c_2) rfl (q_eql rfl rfl) ?_
        refine HO.val (v := .bool (decide (kind = 4))) (want_none) rfl (q_pickK false rfl c_2 rfl) ?_
        refine HO.val (v := .bool true) (want_none) rfl (q_assign rfl) ?_
        refine HO.val (v := .bool (decide (kind = 4))) (want_none) rfl (q_assign rfl) ?_
        refine HO.nil (thenQ_normal (?_))
        replace hS : St F (Ow.box b_1 24 #[.bool s_Exclude, vs_On, vs_Off] :: Ow.box b_2 29 #[.bool false, .slice none 0 0, .slice none 0 0, .slice none 0 0, .slice none 0 0, .bool false, .slice none 0 0, .bool false] :: Ow.box b_3 29 #[.bool s_Exclude, .slice none 0 0, .slice none 0 0, .slice none 0 0, .slice none 0 0, .bool false, .slice none 0 0, .bool false] :: fr) h_4 := hS.perm2 [2, 1, 0] 3 rfl rfl
        exact ⟨F, true, decide (kind = 4), rfl, rfl, rfl, rfl, rfl, rfl, rfl, hK, hS, hL_s_On, hL_s_Off, hL_b, hM⟩
    · replace hM := hM.2 (of_decide_eq_false c_1)
      refine HO.val (v := .int .i64 kind) (want_by rfl rfl c_1) rfl (q_move rfl) ?_
      refine HO.val (v := .bool (decide (kind = 3))) (want_by rfl rfl c_1) rfl (q_eql rfl rfl) ?_
      refine HO.val (v := .bool (decide (kind = 3))) (want_none) rfl (q_pickK false rfl c_1 rfl) ?_
      refine HO.val (v := .bool (decide (kind = 3))) (want_none) rfl (q_move rfl) ?_
      rcases Bool.eq_false_or_eq_true (decide (kind = 3)) with c_3 | c_3
      · replace hM := hM.1 (of_decide_eq_true c_3)
        refine HO.past (past_by rfl rfl c_3) rfl ?_
        refine HO.past (past_by rfl rfl c_3) rfl ?_
        refine HO.val (v := .bool true) (want_none) rfl (q_pickK true rfl c_3 rfl) ?_
        refine HO.val (v := .int .i64 kind) (want_none) rfl (q_move rfl) ?_
        refine HO.val (v := .bool (decide (kind = 2))) (want_none) rfl (q_eql rfl rfl) ?_
        refine HO.val (v := .bool (decide (kind = 2))) (want_none) rfl (q_move rfl) ?_
        rcases Bool.eq_false_or_eq_true (decide (kind = 2)) with c_4 | c_4
        · replace hM := hM.1 (of_decide_eq_true c_4)
          refine HO.past (past_by rfl rfl c_4) rfl ?_
          refine HO.past (past_by rfl rfl c_4) rfl ?_
          refine HO.val (v := .bool true) (want_none) rfl (q_pickK true rfl c_4 rfl) ?_
          refine HO.val (v := .bool true) (want_none) rfl (q_assign rfl) ?_
          refine HO.val (v := .bool true) (want_none) rfl (q_assign rfl) ?_
          refine HO.nil (thenQ_normal (?_))
          replace hS : St F (Ow.box b_1 24 #[.bool s_Exclude, vs_On, vs_Off] :: Ow.box b_2 29 #[.bool false, .slice none 0 0, .slice none 0 0, .slice none 0 0, .slice none 0 0, .bool false, .slice none 0 0, .bool false] :: Ow.box b_3 29 #[.bool s_Exclude, .slice none 0 0, .slice none 0 0, .slice none 0 0, .slice none 0 0, .bool false, .slice none 0 0, .bool false] :: fr) h_4 := hS.perm2 [2, 1, 0] 3 rfl rfl
          exact ⟨F, true, true, rfl, rfl, rfl, rfl, rfl, rfl, rfl, hK, hS, hL_s_On, hL_s_Off, hL_b, hM⟩
        · replace hM := hM.2 (of_decide_eq_false c_4)
          refine HO.val (v := .int .i64 kind) (want_by rfl rfl c_4) rfl (q_move rfl) ?_
          refine HO.val (v := .bool (decide (kind = 4))) (want_by rfl rfl c_4) rfl (q_eql rfl rfl) ?_
          refine HO.val (v := .bool (decide (kind = 4))) (want_none) rfl (q_pickK false rfl c_4 rfl) ?_
          refine HO.val (v := .bool true) (want_none) rfl (q_assign rfl) ?_
          refine HO.val (v := .bool (decide (kind = 4))) (want_none) rfl (q_assign rfl) ?_
          refine HO.nil (thenQ_normal (?_))
          replace hS : St F (Ow.box b_1 24 #[.bool s_Exclude, vs_On, vs_Off] :: Ow.box b_2 29 #[.bool false, .slice none 0 0, .slice none 0 0, .slice none 0 0, .slice none 0 0, .bool false, .slice none 0 0, .bool false] :: Ow.box b_3 29 #[.bool s_Exclude, .slice none 0 0, .slice none 0 0, .slice none 0 0, .slice none 0 0, .bool false, .slice none 0 0, .bool false] :: fr) h_4 := hS.perm2 [2, 1, 0] 3 rfl rfl
          exact ⟨F, true, decide (kind = 4), rfl, rfl, rfl, rfl, rfl, rfl, rfl, hK, hS, hL_s_On, hL_s_Off, hL_b, hM⟩
      · replace hM := hM.2 (of_decide_eq_false c_3)
        refine HO.val (v := .int .i64 kind) (want_by rfl rfl c_3) rfl (q_move rfl) ?_
        refine HO.val (v := .bool (decide (kind = 5))) (want_by rfl rfl c_3) rfl (q_eql rfl rfl) ?_
        refine HO.val (v := .bool (decide (kind = 5))) (want_none) rfl (q_pickK false rfl c_3 rfl) ?_
        refine HO.val (v := .int .i64 kind) (want_none) rfl (q_move rfl) ?_
        refine HO.val (v := .bool (decide (kind = 2))) (want_none) rfl (q_eql rfl rfl) ?_
        refine HO.val (v := .bool (decide (kind = 2))) (want_none) rfl (q_move rfl) ?_
        rcases Bool.eq_false_or_eq_true (decide (kind = 2)) with c_5 | c_5
        · replace hM := hM.1 (of_decide_eq_true c_5)
          refine HO.past (past_by rfl rfl c_5) rfl ?_
          refine HO.past (past_by rfl rfl c_5) rfl ?_
          refine HO.val (v := .bool true) (want_none) rfl (q_pickK true rfl c_5 rfl) ?_
          refine HO.val (v := .bool (decide (kind = 5))) (want_none) rfl (q_assign rfl) ?_
          refine HO.val (v := .bool true) (want_none) rfl (q_assign rfl) ?_
          refine HO.nil (thenQ_normal (?_))
          replace hS : St F (Ow.box b_1 24 #[.bool s_Exclude, vs_On, vs_Off] :: Ow.box b_2 29 #[.bool false, .slice none 0 0, .slice none 0 0, .slice none 0 0, .slice none 0 0, .bool false, .slice none 0 0, .bool false] :: Ow.box b_3 29 #[.bool s_Exclude, .slice none 0 0, .slice none 0 0, .slice none 0 0, .slice none 0 0, .bool false, .slice none 0 0, .bool false] :: fr) h_4 := hS.perm2 [2, 1, 0] 3 rfl rfl
          exact ⟨F, decide (kind = 5), true, rfl, rfl, rfl, rfl, rfl, rfl, rfl, hK, hS, hL_s_On, hL_s_Off, hL_b, hM⟩
        · replace hM := hM.2 (of_decide_eq_false c_5)
          refine HO.val (v := .int .i64 kind) (want_by rfl rfl c_5) rfl (q_move rfl) ?_
          refine HO.val (v := .bool (decide (kind = 4))) (want_by rfl rfl c_5) rfl (q_eql rfl rfl) ?_
          refine HO.val (v := .bool (decide (kind = 4))) (want_none) rfl (q_pickK false rfl c_5 rfl) ?_
          refine HO.val (v := .bool (decide (kind = 5))) (want_none) rfl (q_assign rfl) ?_
          refine HO.val (v := .bool (decide (kind = 4))) (want_none) rfl (q_assign rfl) ?_
          refine HO.nil (thenQ_normal (?_))
          replace hS : St F (Ow.box b_1 24 #[.bool s_Exclude, vs_On, vs_Off] :: Ow.box b_2 29 #[.bool false, .slice none 0 0, .slice none 0 0, .slice none 0 0, .slice none 0 0, .bool false, .slice none 0 0, .bool false] :: Ow.box b_3 29 #[.bool s_Exclude, .slice none 0 0, .slice none 0 0, .slice none 0 0, .slice none 0 0, .bool false, .slice none 0 0, .bool false] :: fr) h_4 := hS.perm2 [2, 1, 0] 3 rfl rfl
          exact ⟨F, decide (kind = 5), decide (kind = 4), rfl, rfl, rfl, rfl, rfl, rfl, rfl, hK, hS, hL_s_On, hL_s_Off, hL_b, hM⟩
  · rintro f_1 h_5 ⟨F_1, b_4, ex_1, e1, e2, e3, e6, e7, e8, e9, hK, hS, hL_s_On, hL_s_Off, hL_b, hM⟩
    unfold ref15_Apply_j1 at hM
    refine HW.fr [(1, .int .i64 kind), (2, vb), (3, .pointer (some ⟨b_1, 0, none⟩)), (6, .pointer (some ⟨b_2, 0, none⟩)), (7, .pointer (some ⟨b_3, 0, none⟩)), (8, .bool b_4), (9, .bool ex_1)] ⟨e1, e2, e3, e6, e7, e8, e9, trivial⟩ ?_
    refine HW.seq_mid (fun f h => ∃ (F' : Fz) (out_0_1 : Bool) (out_5_1 : Bool), f 1 = .int .i64 kind ∧ f 2 = vb ∧ f 3 = .pointer (some ⟨b_1, 0, none⟩) ∧ f 6 = .pointer (some ⟨b_2, 0, none⟩) ∧ f 7 = .pointer (some ⟨b_3, 0, none⟩) ∧ f 8 = .bool b_4 ∧ f 9 = .bool ex_1 ∧ Kp F h0 F' h ∧ St F' (Ow.box b_1 24 #[.bool s_Exclude, vs_On, vs_Off] :: Ow.box b_2 29 #[.bool false, .slice none 0 0, .slice none 0 0, .slice none 0 0, .slice none 0 0, .bool false, .slice none 0 0, .bool false] :: Ow.box b_3 29 #[.bool out_0_1, .slice none 0 0, .slice none 0 0, .slice none 0 0, .slice none 0 0, .bool out_5_1, .slice none 0 0, .bool false] :: fr) h ∧ (SliceF F' h 17 e_api_Addr vs_On s_On) ∧ (SliceF F' h 17 e_api_Addr vs_Off s_Off) ∧ (SliceF F' h 17 e_api_Addr vb b) ∧ ref15_Apply_j2 s_Exclude s_On s_Off kind b Q b_4 ex_1 out_0_1 out_5_1) ?_ ?_
    · refine HW.seq ?_
      refine HW.region ?_
      refine HO.val (v := .bool ex_1) (want_none) rfl (q_move rfl) ?_
      refine HO.nil (thenQ_normal (?_))
      refine HW.cond ex_1 rfl (fun c_6 => ?_) (fun c_6 => ?_)
      · replace hM := hM.1 c_6
        refine HW.region ?_
        refine HO.val (v := .pointer (some ⟨b_3, 0, none⟩)) (want_none) rfl (q_fieldAddr fa_29_0 rfl rfl) ?_
        refine HO.val (v := .pointer (some ⟨b_3, 0, none⟩)) (want_none) rfl (q_fieldAddr fa_24_0 rfl rfl) ?_
        refine HO.sto (want_none) rfl (st_store (c' := #[.bool true, .slice none 0 0, .slice none 0 0, .slice none 0 0, .slice none 0 0, .bool false, .slice none 0 0, .bool false]) hS (i := 2) rfl to_4 rfl rfl rfl rfl (Nat.le_of_ble_eq_true rfl) rfl) ?_
        rintro h_6 ⟨hS, hk⟩
        replace hS : St F_1 (Ow.box b_1 24 #[.bool s_Exclude, vs_On, vs_Off] :: Ow.box b_2 29 #[.bool false, .slice none 0 0, .slice none 0 0, .slice none 0 0, .slice none 0 0, .bool false, .slice none 0 0, .bool false] :: Ow.box b_3 29 #[.bool true, .slice none 0 0, .slice none 0 0, .slice none 0 0, .slice none 0 0, .bool false, .slice none 0 0, .bool false] :: fr) h_6 := hS
        replace hK := hK.trans hk
        replace hL_s_On := hL_s_On.kp hk
        replace hL_s_Off := hL_s_Off.kp hk
        replace hL_b := hL_b.kp hk
        refine HO.val (v := .pointer (some ⟨b_3, 5, none⟩)) (want_none) rfl (q_fieldAddr fa_29_3 rfl rfl) ?_
        refine HO.sto (want_none) rfl (st_store (c' := #[.bool true, .slice none 0 0, .slice none 0 0, .slice none 0 0, .slice none 0 0, .bool true, .slice none 0 0, .bool false]) hS (i := 2) rfl to_4 rfl rfl rfl rfl (Nat.le_of_ble_eq_true rfl) rfl) ?_
        rintro h_7 ⟨hS, hk⟩
        replace hS : St F_1 (Ow.box b_1 24 #[.bool s_Exclude, vs_On, vs_Off] :: Ow.box b_2 29 #[.bool false, .slice none 0 0, .slice none 0 0, .slice none 0 0, .slice none 0 0, .bool false, .slice none 0 0, .bool false] :: Ow.box b_3 29 #[.bool true, .slice none 0 0, .slice none 0 0, .slice none 0 0, .slice none 0 0, .bool true, .slice none 0 0, .bool false] :: fr) h_7 := hS
        replace hK := hK.trans hk
        replace hL_s_On := hL_s_On.kp hk
        replace hL_s_Off := hL_s_Off.kp hk
        replace hL_b := hL_b.kp hk
        refine HO.nil (thenQ_normal (?_))
        exact ⟨F_1, true, true, rfl, rfl, rfl, rfl, rfl, rfl, rfl, hK, hS, hL_s_On, hL_s_Off, hL_b, hM⟩
      · replace hM := hM.2 c_6
        refine HW.skip (thenQ_normal (?_))
        exact ⟨F_1, s_Exclude, false, rfl, rfl, rfl, rfl, rfl, rfl, rfl, hK, hS, hL_s_On, hL_s_Off, hL_b, hM⟩
    · rintro f_2 h_8 ⟨F_2, out_0_1, out_5_1, e1, e2, e3, e6, e7, e8, e9, hK, hS, hL_s_On, hL_s_Off, hL_b, hM⟩
      unfold ref15_Apply_j2 at hM
      refine HW.fr [(1, .int .i64 kind), (2, vb), (3, .pointer (some ⟨b_1, 0, none⟩)), (6, .pointer (some ⟨b_2, 0, none⟩)), (7, .pointer (some ⟨b_3, 0, none⟩)), (8, .bool b_4), (9, .bool ex_1)] ⟨e1, e2, e3, e6, e7, e8, e9, trivial⟩ ?_
      refine HW.seq_mid (fun f h => ∃ (F' : Fz) (out_7_1 : Bool), f 1 = .int .i64 kind ∧ f 2 = vb ∧ f 3 = .pointer (some ⟨b_1, 0, none⟩) ∧ f 6 = .pointer (some ⟨b_2, 0, none⟩) ∧ f 7 = .pointer (some ⟨b_3, 0, none⟩) ∧ f 8 = .bool b_4 ∧ f 9 = .bool ex_1 ∧ Kp F h0 F' h ∧ St F' (Ow.box b_1 24 #[.bool s_Exclude, vs_On, vs_Off] :: Ow.box b_2 29 #[.bool false, .slice none 0 0, .slice none 0 0, .slice none 0 0, .slice none 0 0, .bool false, .slice none 0 0, .bool false] :: Ow.box b_3 29 #[.bool out_0_1, .slice none 0 0, .slice none 0 0, .slice none 0 0, .slice none 0 0, .bool out_5_1, .slice none 0 0, .bool out_7_1] :: fr) h ∧ (SliceF F' h 17 e_api_Addr vs_On s_On) ∧ (SliceF F' h 17 e_api_Addr vs_Off s_Off) ∧ (SliceF F' h 17 e_api_Addr vb b) ∧ ref15_Apply_j3 s_Exclude s_On s_Off kind b Q b_4 ex_1 out_0_1 out_5_1 out_7_1) ?_ ?_
      · refine HW.region ?_
        refine HO.val (v := .pointer (some ⟨b_1, 0, none⟩)) (want_none) rfl (q_fieldAddr fa_24_0 rfl rfl) ?_
        refine HO.val (v := .bool s_Exclude) (want_none) rfl (q_load to_4 rfl (Blk.cell (hS.box 0 rfl) rfl)) ?_
        refine HO.val (v := .bool s_Exclude) (want_none) rfl (q_move rfl) ?_
        rcases Bool.eq_false_or_eq_true s_Exclude with c_7 | c_7
        · replace hM := hM.1 c_7
          refine HO.val (v := .int .i64 kind) (want_by rfl rfl c_7) rfl (q_move rfl) ?_
          refine HO.val (v := .bool (decide (kind = 3))) (want_by rfl rfl c_7) rfl (q_eql rfl rfl) ?_
          refine HO.val (v := .bool (decide (kind = 3))) (want_none) rfl (q_pickK true rfl c_7 rfl) ?_
          refine HO.val (v := .pointer (some ⟨b_3, 7, none⟩)) (want_none) rfl (q_fieldAddr fa_29_5 rfl rfl) ?_
          refine HO.sto (want_none) rfl (st_store (c' := #[.bool out_0_1, .slice none 0 0, .slice none 0 0, .slice none 0 0, .slice none 0 0, .bool out_5_1, .slice none 0 0, .bool (decide (kind = 3))]) hS (i := 2) rfl to_4 rfl rfl rfl rfl (Nat.le_of_ble_eq_true rfl) rfl) ?_
          rintro h_9 ⟨hS, hk⟩
          replace hS : St F_2 (Ow.box b_1 24 #[.bool s_Exclude, vs_On, vs_Off] :: Ow.box b_2 29 #[.bool false, .slice none 0 0, .slice none 0 0, .slice none 0 0, .slice none 0 0, .bool false, .slice none 0 0, .bool false] :: Ow.box b_3 29 #[.bool out_0_1, .slice none 0 0, .slice none 0 0, .slice none 0 0, .slice none 0 0, .bool out_5_1, .slice none 0 0, .bool (decide (kind = 3))] :: fr) h_9 := hS
          replace hK := hK.trans hk
          replace hL_s_On := hL_s_On.kp hk
          replace hL_s_Off := hL_s_Off.kp hk
          replace hL_b := hL_b.kp hk
          refine HO.nil (thenQ_normal (?_))
          exact ⟨F_2, decide (kind = 3), rfl, rfl, rfl, rfl, rfl, rfl, rfl, hK, hS, hL_s_On, hL_s_Off, hL_b, hM⟩
        · replace hM := hM.2 c_7
          refine HO.past (past_by rfl rfl c_7) rfl ?_
          refine HO.past (past_by rfl rfl c_7) rfl ?_
          refine HO.val (v := .bool false) (want_none) rfl (q_pickK false rfl c_7 rfl) ?_
          refine HO.val (v := .pointer (some ⟨b_3, 7, none⟩)) (want_none) rfl (q_fieldAddr fa_29_5 rfl rfl) ?_
          refine HO.sto (want_none) rfl (st_store (c' := #[.bool out_0_1, .slice none 0 0, .slice none 0 0, .slice none 0 0, .slice none 0 0, .bool out_5_1, .slice none 0 0, .bool false]) hS (i := 2) rfl to_4 rfl rfl rfl rfl (Nat.le_of_ble_eq_true rfl) rfl) ?_
          rintro h_10 ⟨hS, hk⟩
          replace hS : St F_2 (Ow.box b_1 24 #[.bool s_Exclude, vs_On, vs_Off] :: Ow.box b_2 29 #[.bool false, .slice none 0 0, .slice none 0 0, .slice none 0 0, .slice none 0 0, .bool false, .slice none 0 0, .bool false] :: Ow.box b_3 29 #[.bool out_0_1, .slice none 0 0, .slice none 0 0, .slice none 0 0, .slice none 0 0, .bool out_5_1, .slice none 0 0, .bool false] :: fr) h_10 := hS
          replace hK := hK.trans hk
          replace hL_s_On := hL_s_On.kp hk
          replace hL_s_Off := hL_s_Off.kp hk
          replace hL_b := hL_b.kp hk
          refine HO.nil (thenQ_normal (?_))
          exact ⟨F_2, false, rfl, rfl, rfl, rfl, rfl, rfl, rfl, hK, hS, hL_s_On, hL_s_Off, hL_b, hM⟩
      · rintro f_3 h_11 ⟨F_3, out_7_1, e1, e2, e3, e6, e7, e8, e9, hK, hS, hL_s_On, hL_s_Off, hL_b, hM⟩
        unfold ref15_Apply_j3 at hM
        refine HW.fr [(1, .int .i64 kind), (2, vb), (3, .pointer (some ⟨b_1, 0, none⟩)), (6, .pointer (some ⟨b_2, 0, none⟩)), (7, .pointer (some ⟨b_3, 0, none⟩)), (8, .bool b_4), (9, .bool ex_1)] ⟨e1, e2, e3, e6, e7, e8, e9, trivial⟩ ?_
        refine HW.seq ?_
        refine HW.region ?_
        refine HO.val (v := .pointer (some ⟨b_1, 1, none⟩)) (want_none) rfl (q_fieldAddr fa_24_1 rfl rfl) ?_
        refine HO.val (v := vs_On) (want_none) rfl (q_load to_22 rfl (Blk.cell (hS.box 0 rfl) rfl)) ?_
        refine HO.val (v := .pointer (some ⟨b_1, 2, none⟩)) (want_none) rfl (q_fieldAddr fa_24_2 rfl rfl) ?_
        refine HO.val (v := vs_Off) (want_none) rfl (q_load to_22 rfl (Blk.cell (hS.box 0 rfl) rfl)) ?_
        refine HO.call (want_none) rfl (ec en_12 rfl rfl) (ref11_Or_walk (fr := (Ow.box b_1 24 #[.bool s_Exclude, vs_On, vs_Off] :: Ow.box b_2 29 #[.bool false, .slice none 0 0, .slice none 0 0, .slice none 0 0, .slice none 0 0, .bool false, .slice none 0 0, .bool false] :: Ow.box b_3 29 #[.bool out_0_1, .slice none 0 0, .slice none 0 0, .slice none 0 0, .slice none 0 0, .bool out_5_1, .slice none 0 0, .bool out_7_1] :: fr)) s_On s_Off vs_On vs_Off hS hL_s_On hL_s_Off hM) ?_
        rintro vr_1 h_12 ⟨F_4, r_1, _, rfl, hk, hS, _, _, hL_1, hM⟩
        replace hK := hK.trans hk
        replace hL_s_On := hL_s_On.kp hk
        replace hL_s_Off := hL_s_Off.kp hk
        replace hL_b := hL_b.kp hk
        refine HO.val (v := vb) (want_none) rfl (q_move rfl) ?_
        refine HO.call (want_none) rfl (ec en_8 rfl rfl) (ref11_Of_walk (fr := (Ow.box b_1 24 #[.bool s_Exclude, vs_On, vs_Off] :: Ow.box b_2 29 #[.bool false, .slice none 0 0, .slice none 0 0, .slice none 0 0, .slice none 0 0, .bool false, .slice none 0 0, .bool false] :: Ow.box b_3 29 #[.bool out_0_1, .slice none 0 0, .slice none 0 0, .slice none 0 0, .slice none 0 0, .bool out_5_1, .slice none 0 0, .bool out_7_1] :: fr)) b vb hS hL_b hM) ?_
        rintro vr_2 h_13 ⟨F_5, r_2, _, rfl, hk, hS, _, hL_2, hM⟩
        replace hK := hK.trans hk
        replace hL_s_On := hL_s_On.kp hk
        replace hL_s_Off := hL_s_Off.kp hk
        replace hL_b := hL_b.kp hk
        replace hL_1 := hL_1.kp hk
        refine HO.call (want_none) rfl (ec en_12 rfl rfl) (ref11_Or_walk (fr := (Ow.box b_1 24 #[.bool s_Exclude, vs_On, vs_Off] :: Ow.box b_2 29 #[.bool false, .slice none 0 0, .slice none 0 0, .slice none 0 0, .slice none 0 0, .bool false, .slice none 0 0, .bool false] :: Ow.box b_3 29 #[.bool out_0_1, .slice none 0 0, .slice none 0 0, .slice none 0 0, .slice none 0 0, .bool out_5_1, .slice none 0 0, .bool out_7_1] :: fr)) r_1 r_2 vr_1 vr_2 hS hL_1 hL_2 hM) ?_
        rintro vr_3 h_14 ⟨F_6, r_3, _, rfl, hk, hS, _, _, hL_3, hM⟩
        replace hK := hK.trans hk
        replace hL_s_On := hL_s_On.kp hk
        replace hL_s_Off := hL_s_Off.kp hk
        replace hL_b := hL_b.kp hk
        replace hL_1 := hL_1.kp hk
        replace hL_2 := hL_2.kp hk
        refine HO.val (v := vr_3) (want_none) rfl (q_assign rfl) ?_
        refine HO.nil (thenQ_normal (?_))
        refine HW.seq ?_
        refine HW.seq ?_
        refine HW.region ?_
        refine HO.val (v := .int .i64 0) (want_none) rfl (q_assign rfl) ?_
        refine HO.nil (thenQ_normal (?_))
        refine HW.block ?_
        obtain ⟨I_1, m_1, hI_1, hR_1⟩ := hM
        replace hS := hS.nilOwn 34 17 e_api_Addr
        replace hS := hS.nilOwn 34 17 e_api_Addr
        replace hS := hS.nilOwn 34 17 e_api_Addr
        replace hS := hS.nilOwn 34 17 e_api_Addr
        replace hS := hS.nilOwn 34 17 e_api_Addr
        replace hS : St F_6 (Ow.box b_1 24 #[.bool s_Exclude, vs_On, vs_Off] :: Ow.box b_2 29 #[.bool false, .slice none 0 0, .slice none 0 0, .slice none 0 0, .slice none 0 0, .bool false, .slice none 0 0, .bool false] :: Ow.box b_3 29 #[.bool out_0_1, .slice none 0 0, .slice none 0 0, .slice none 0 0, .slice none 0 0, .bool out_5_1, .slice none 0 0, .bool out_7_1] :: Ow.own 34 17 e_api_Addr (.slice none 0 0) ([] : List T_api_Addr) :: Ow.own 34 17 e_api_Addr (.slice none 0 0) ([] : List T_api_Addr) :: Ow.own 34 17 e_api_Addr (.slice none 0 0) ([] : List T_api_Addr) :: Ow.own 34 17 e_api_Addr (.slice none 0 0) ([] : List T_api_Addr) :: Ow.own 34 17 e_api_Addr (.slice none 0 0) ([] : List T_api_Addr) :: fr) h_14 := hS.perm2 [5, 6, 7, 4, 3, 2, 1, 0] 8 rfl rfl
        refine HW.loop (S := List T_api_Addr × List T_api_Addr × List T_api_Addr × List T_api_Addr × List T_api_Addr × Int) (fun s f h => match s with | (out_1_1, out_2_1, out_3_1, out_4_1, out_6_1, i_1) => ∃ (F' : Fz) (vout_1_1 : Value) (vout_2_1 : Value) (vout_3_1 : Value) (vout_4_1 : Value) (vout_6_1 : Value), f 1 = .int .i64 kind ∧ f 2 = vb ∧ f 3 = .pointer (some ⟨b_1, 0, none⟩) ∧ f 6 = .pointer (some ⟨b_2, 0, none⟩) ∧ f 7 = .pointer (some ⟨b_3, 0, none⟩) ∧ f 8 = .bool b_4 ∧ f 9 = .bool ex_1 ∧ f 10 = vr_3 ∧ f 11 = .int .i64 i_1 ∧ Kp F h0 F' h ∧ St F' (Ow.box b_1 24 #[.bool s_Exclude, vs_On, vs_Off] :: Ow.box b_2 29 #[.bool false, .slice none 0 0, .slice none 0 0, .slice none 0 0, .slice none 0 0, .bool false, .slice none 0 0, .bool false] :: Ow.box b_3 29 #[.bool out_0_1, vout_1_1, vout_2_1, vout_3_1, vout_4_1, .bool out_5_1, vout_6_1, .bool out_7_1] :: Ow.own 34 17 e_api_Addr vout_1_1 out_1_1 :: Ow.own 34 17 e_api_Addr vout_2_1 out_2_1 :: Ow.own 34 17 e_api_Addr vout_3_1 out_3_1 :: Ow.own 34 17 e_api_Addr vout_4_1 out_4_1 :: Ow.own 34 17 e_api_Addr vout_6_1 out_6_1 :: fr) h ∧ (SliceF F' h 17 e_api_Addr vs_On s_On) ∧ (SliceF F' h 17 e_api_Addr vs_Off s_Off) ∧ (SliceF F' h 17 e_api_Addr vb b) ∧ (SliceF F' h 17 e_api_Addr vr_1 r_1) ∧ (SliceF F' h 17 e_api_Addr vr_2 r_2) ∧ (SliceF F' h 17 e_api_Addr vr_3 r_3) ∧ I_1 (out_1_1, out_2_1, out_3_1, out_4_1, out_6_1, i_1)) m_1 ([], [], [], [], [], 0) ⟨F_6, .slice none 0 0, .slice none 0 0, .slice none 0 0, .slice none 0 0, .slice none 0 0, rfl, rfl, rfl, rfl, rfl, rfl, rfl, rfl, rfl, hK, hS, hL_s_On, hL_s_Off, hL_b, hL_1, hL_2, hL_3, hI_1⟩ ?_
        rintro ⟨out_1_1, out_2_1, out_3_1, out_4_1, out_6_1, i_1⟩ f_4 h_15 ⟨F_7, vout_1_1, vout_2_1, vout_3_1, vout_4_1, vout_6_1, e1, e2, e3, e6, e7, e8, e9, e10, e11, hK, hS, hL_s_On, hL_s_Off, hL_b, hL_1, hL_2, hL_3, hI0⟩
        obtain ⟨K_1, hKe_1⟩ : ∃ K : (List T_api_Addr) → (List T_api_Addr) → (List T_api_Addr) → (List T_api_Addr) → (List T_api_Addr) → Int → Prop, K = fun out_1_1' out_2_1' out_3_1' out_4_1' out_6_1' i_1' => I_1 (out_1_1', out_2_1', out_3_1', out_4_1', out_6_1', i_1') ∧ m_1 (out_1_1', out_2_1', out_3_1', out_4_1', out_6_1', i_1') < m_1 (out_1_1, out_2_1, out_3_1, out_4_1, out_6_1, i_1) := ⟨_, rfl⟩
        have hM : ref15_Apply_l1 s_Exclude s_On s_Off kind b Q b_4 ex_1 out_0_1 out_5_1 out_7_1 r_3 K_1 out_1_1 out_2_1 out_3_1 out_4_1 out_6_1 i_1 := by rw [hKe_1]; exact hR_1 (out_1_1, out_2_1, out_3_1, out_4_1, out_6_1, i_1) hI0
        unfold ref15_Apply_l1 at hM
        refine HW.fr [(1, .int .i64 kind), (2, vb), (3, .pointer (some ⟨b_1, 0, none⟩)), (6, .pointer (some ⟨b_2, 0, none⟩)), (7, .pointer (some ⟨b_3, 0, none⟩)), (8, .bool b_4), (9, .bool ex_1), (10, vr_3), (11, .int .i64 i_1)] ⟨e1, e2, e3, e6, e7, e8, e9, e10, e11, trivial⟩ ?_
        refine HW.seq ?_
        refine HW.seq ?_
        refine HW.region ?_
        refine HO.val (v := .int .i64 i_1) (want_none) rfl (q_move rfl) ?_
        refine HO.val (v := vr_3) (want_none) rfl (q_move rfl) ?_
        refine HO.val (v := .int .i64 (r_3.length : Int)) (want_none) rfl (q_len ts_22 (shp hL_3.is) rfl rfl) ?_
        refine HO.val (v := .bool (decide (i_1 < (r_3.length : Int)))) (want_none) rfl (q_lss rfl rfl) ?_
        refine HO.nil (thenQ_normal (?_))
        refine HW.cond (decide (i_1 < (r_3.length : Int))) rfl (fun c_8 => ?_) (fun c_8 => ?_)
        · replace hM := hM.1 (of_decide_eq_true c_8)
          refine HW.skip (thenQ_normal (?_))
          refine HW.seq ?_
          refine HW.block ?_
          refine HW.seq ?_
          refine HW.region ?_
          refine HO.val (v := vr_3) (want_none) rfl (q_move rfl) ?_
          refine HO.val (v := .int .i64 i_1) (want_none) rfl (q_move rfl) ?_
          obtain ⟨ho_1, hM⟩ := hM
          refine HO.val (v := elemPtr 17 vr_3 (i_1).toNat) (want_none) rfl (q_idx ts_22 hL_3.is rfl rfl ho_1) ?_
          refine HO.val (v := .agg (e_api_Addr (gi r_3 i_1)).toArray) (want_none) rfl (q_ldElemAgg (cs := (e_api_Addr (gi r_3 i_1))) ta_34 hL_3.is rfl ho_1 rfl) ?_
          refine HO.eff (want_none) rfl (st_alloc (c := (e_api_Addr (false, (default : Ba 16))).toArray) hS tz_34 rfl) ?_
          rintro _ h_16 ⟨b_5, rfl, hS, hk⟩
          replace hK := hK.trans hk
          replace hL_s_On := hL_s_On.kp hk
          replace hL_s_Off := hL_s_Off.kp hk
          replace hL_b := hL_b.kp hk
          replace hL_1 := hL_1.kp hk
          replace hL_2 := hL_2.kp hk
          replace hL_3 := hL_3.kp hk
          refine HO.sto (want_none) rfl (st_storeAgg (c' := (e_api_Addr (gi r_3 i_1)).toArray) hS (i := 0) rfl ta_34 rfl rfl rfl (one_e_api_Addr _) (Nat.le_of_ble_eq_true rfl) rfl) ?_
          rintro h_17 ⟨hS, hk⟩
          replace hS : St F_7 (Ow.box b_5 34 (e_api_Addr (gi r_3 i_1)).toArray :: Ow.box b_1 24 #[.bool s_Exclude, vs_On, vs_Off] :: Ow.box b_2 29 #[.bool false, .slice none 0 0, .slice none 0 0, .slice none 0 0, .slice none 0 0, .bool false, .slice none 0 0, .bool false] :: Ow.box b_3 29 #[.bool out_0_1, vout_1_1, vout_2_1, vout_3_1, vout_4_1, .bool out_5_1, vout_6_1, .bool out_7_1] :: Ow.own 34 17 e_api_Addr vout_1_1 out_1_1 :: Ow.own 34 17 e_api_Addr vout_2_1 out_2_1 :: Ow.own 34 17 e_api_Addr vout_3_1 out_3_1 :: Ow.own 34 17 e_api_Addr vout_4_1 out_4_1 :: Ow.own 34 17 e_api_Addr vout_6_1 out_6_1 :: fr) h_17 := hS
          replace hK := hK.trans hk
          replace hL_s_On := hL_s_On.kp hk
          replace hL_s_Off := hL_s_Off.kp hk
          replace hL_b := hL_b.kp hk
          replace hL_1 := hL_1.kp hk
          replace hL_2 := hL_2.kp hk
          replace hL_3 := hL_3.kp hk
          refine HO.nil (thenQ_normal (?_))
          refine HW.seq ?_
          refine HW.regionA 14 mixed (fun h => (Blk h b_5 (.cells (e_api_Addr (gi r_3 i_1)).toArray 34 (0, 0))) ∧ (Blk h b_1 (.cells #[.bool s_Exclude, vs_On, vs_Off] 24 (0, 0)))) [] (by kernel_rfl) ?_
          refine HA.val (k := 0) (v := .pointer (some ⟨b_1, 1, none⟩)) rfl rfl (by kernel_rfl) (by kernel_rfl) (want_none) rfl (fun _ ⟨c381, c368⟩ => q_fieldAddr fa_24_1 rfl rfl) ?_
          refine HA.val (k := 1) (v := vs_On) rfl rfl (by kernel_rfl) (by kernel_rfl) (want_none) rfl (fun _ ⟨c381, c368⟩ => q_load to_22 rfl (Blk.cell c368 rfl)) ?_
          refine HA.val (k := 2) (v := .agg (e_api_Addr (gi r_3 i_1)).toArray) rfl rfl (by kernel_rfl) (by kernel_rfl) (want_none) rfl (fun _ ⟨c381, c368⟩ => q_loadAgg (cs := (e_api_Addr (gi r_3 i_1))) ta_34 rfl rfl (Blk.cells (k := 17) c381 rfl)) ?_
          refine HA.val (k := 4) (v := .pointer (some ⟨b_1, 2, none⟩)) rfl rfl (by kernel_rfl) (by kernel_rfl) (want_none) rfl (fun _ ⟨c381, c368⟩ => q_fieldAddr fa_24_2 rfl rfl) ?_
          refine HA.val (k := 5) (v := vs_Off) rfl rfl (by kernel_rfl) (by kernel_rfl) (want_none) rfl (fun _ ⟨c381, c368⟩ => q_load to_22 rfl (Blk.cell c368 rfl)) ?_
          refine HA.val (k := 6) (v := .agg (e_api_Addr (gi r_3 i_1)).toArray) rfl rfl (by kernel_rfl) (by kernel_rfl) (want_none) rfl (fun _ ⟨c381, c368⟩ => q_loadAgg (cs := (e_api_Addr (gi r_3 i_1))) ta_34 rfl rfl (Blk.cells (k := 17) c381 rfl)) ?_
          refine HA.val (k := 8) (v := vb) rfl rfl (by kernel_rfl) (by kernel_rfl) (want_none) rfl (fun _ ⟨c381, c368⟩ => q_move rfl) ?_
          refine HA.val (k := 9) (v := .agg (e_api_Addr (gi r_3 i_1)).toArray) rfl rfl (by kernel_rfl) (by kernel_rfl) (want_none) rfl (fun _ ⟨c381, c368⟩ => q_loadAgg (cs := (e_api_Addr (gi r_3 i_1))) ta_34 rfl rfl (Blk.cells (k := 17) c381 rfl)) ?_
          refine HA.one (k := 3) ⟨⟨(hS.box 0 rfl), (hS.box 1 rfl)⟩, (Go.Wk.at_nil _ _)⟩ (by kernel_rfl) ?_
          refine HS.call rfl (want_none) rfl (ec en_13 rfl rfl) (ref11_Has_walk (fr := (Ow.box b_5 34 (e_api_Addr (gi r_3 i_1)).toArray :: Ow.box b_1 24 #[.bool s_Exclude, vs_On, vs_Off] :: Ow.box b_2 29 #[.bool false, .slice none 0 0, .slice none 0 0, .slice none 0 0, .slice none 0 0, .bool false, .slice none 0 0, .bool false] :: Ow.box b_3 29 #[.bool out_0_1, vout_1_1, vout_2_1, vout_3_1, vout_4_1, .bool out_5_1, vout_6_1, .bool out_7_1] :: Ow.own 34 17 e_api_Addr vout_1_1 out_1_1 :: Ow.own 34 17 e_api_Addr vout_2_1 out_2_1 :: Ow.own 34 17 e_api_Addr vout_3_1 out_3_1 :: Ow.own 34 17 e_api_Addr vout_4_1 out_4_1 :: Ow.own 34 17 e_api_Addr vout_6_1 out_6_1 :: fr)) s_On (gi r_3 i_1) vs_On hS hL_s_On hM) ?_
          rintro _ h_18 ⟨F_8, r_4, rfl, hk, hS, _, hM⟩
          replace hK := hK.trans hk
          replace hL_s_On := hL_s_On.kp hk
          replace hL_s_Off := hL_s_Off.kp hk
          replace hL_b := hL_b.kp hk
          replace hL_1 := hL_1.kp hk
          replace hL_2 := hL_2.kp hk
          replace hL_3 := hL_3.kp hk
          refine HA.one (k := 7) ⟨⟨(hS.box 0 rfl), (hS.box 1 rfl)⟩, (Go.Wk.at_nil _ _)⟩ (by kernel_rfl) ?_
          refine HS.call rfl (want_none) rfl (ec en_13 rfl rfl) (ref11_Has_walk (fr := (Ow.box b_5 34 (e_api_Addr (gi r_3 i_1)).toArray :: Ow.box b_1 24 #[.bool s_Exclude, vs_On, vs_Off] :: Ow.box b_2 29 #[.bool false, .slice none 0 0, .slice none 0 0, .slice none 0 0, .slice none 0 0, .bool false, .slice none 0 0, .bool false] :: Ow.box b_3 29 #[.bool out_0_1, vout_1_1, vout_2_1, vout_3_1, vout_4_1, .bool out_5_1, vout_6_1, .bool out_7_1] :: Ow.own 34 17 e_api_Addr vout_1_1 out_1_1 :: Ow.own 34 17 e_api_Addr vout_2_1 out_2_1 :: Ow.own 34 17 e_api_Addr vout_3_1 out_3_1 :: Ow.own 34 17 e_api_Addr vout_4_1 out_4_1 :: Ow.own 34 17 e_api_Addr vout_6_1 out_6_1 :: fr)) s_Off (gi r_3 i_1) vs_Off hS hL_s_Off hM) ?_
          rintro _ h_19 ⟨F_9, r_5, rfl, hk, hS, _, hM⟩
          replace hK := hK.trans hk
          replace hL_s_On := hL_s_On.kp hk
          replace hL_s_Off := hL_s_Off.kp hk
          replace hL_b := hL_b.kp hk
          replace hL_1 := hL_1.kp hk
          replace hL_2 := hL_2.kp hk
          replace hL_3 := hL_3.kp hk
          refine HA.one (k := 10) ⟨⟨(hS.box 0 rfl), (hS.box 1 rfl)⟩, (Go.Wk.at_nil _ _)⟩ (by kernel_rfl) ?_
          refine HS.call rfl (want_none) rfl (ec en_13 rfl rfl) (ref11_Has_walk (fr := (Ow.box b_5 34 (e_api_Addr (gi r_3 i_1)).toArray :: Ow.box b_1 24 #[.bool s_Exclude, vs_On, vs_Off] :: Ow.box b_2 29 #[.bool false, .slice none 0 0, .slice none 0 0, .slice none 0 0, .slice none 0 0, .bool false, .slice none 0 0, .bool false] :: Ow.box b_3 29 #[.bool out_0_1, vout_1_1, vout_2_1, vout_3_1, vout_4_1, .bool out_5_1, vout_6_1, .bool out_7_1] :: Ow.own 34 17 e_api_Addr vout_1_1 out_1_1 :: Ow.own 34 17 e_api_Addr vout_2_1 out_2_1 :: Ow.own 34 17 e_api_Addr vout_3_1 out_3_1 :: Ow.own 34 17 e_api_Addr vout_4_1 out_4_1 :: Ow.own 34 17 e_api_Addr vout_6_1 out_6_1 :: fr)) b (gi r_3 i_1) vb hS hL_b hM) ?_
          rintro _ h_20 ⟨F_10, r_6, rfl, hk, hS, _, hM⟩
          replace hK := hK.trans hk
          replace hL_s_On := hL_s_On.kp hk
          replace hL_s_Off := hL_s_Off.kp hk
          replace hL_b := hL_b.kp hk
          replace hL_1 := hL_1.kp hk
          replace hL_2 := hL_2.kp hk
          replace hL_3 := hL_3.kp hk
          refine HA.val (k := 11) (v := .bool r_4) rfl rfl (by kernel_rfl) (by kernel_rfl) (want_none) rfl (fun _ ⟨c381, c368⟩ => q_assign rfl) ?_
          refine HA.val (k := 12) (v := .bool r_5) rfl rfl (by kernel_rfl) (by kernel_rfl) (want_none) rfl (fun _ ⟨c381, c368⟩ => q_assign rfl) ?_
          refine HA.val (k := 13) (v := .bool r_6) rfl rfl (by kernel_rfl) (by kernel_rfl) (want_none) rfl (fun _ ⟨c381, c368⟩ => q_assign rfl) ?_
          refine HA.nil ⟨⟨(hS.box 0 rfl), (hS.box 1 rfl)⟩, (Go.Wk.at_nil _ _)⟩ (by kernel_rfl) (thenQ_normal (?_))
          refine HW.seq ?_
          refine HW.region ?_
          refine HO.val (v := .bool r_4) (want_none) rfl (q_move rfl) ?_
          refine HO.val (v := .bool r_5) (want_none) rfl (q_move rfl) ?_
          refine HO.val (v := .bool r_4) (want_none) rfl (q_assign rfl) ?_
          refine HO.val (v := .bool r_5) (want_none) rfl (q_assign rfl) ?_
          refine HO.nil (thenQ_normal (?_))
          refine HW.seq_mid (fun f h => ∃ (F' : Fz) (out_3_2 : List T_api_Addr) (nowOn_1 : Bool) (nowOff_1 : Bool) (vout_3_2 : Value), f 1 = .int .i64 kind ∧ f 2 = vb ∧ f 3 = .pointer (some ⟨b_1, 0, none⟩) ∧ f 6 = .pointer (some ⟨b_2, 0, none⟩) ∧ f 7 = .pointer (some ⟨b_3, 0, none⟩) ∧ f 8 = .bool b_4 ∧ f 9 = .bool ex_1 ∧ f 10 = vr_3 ∧ f 11 = .int .i64 i_1 ∧ f 12 = .pointer (some ⟨b_5, 0, none⟩) ∧ f 13 = .bool r_4 ∧ f 14 = .bool r_5 ∧ f 15 = .bool r_6 ∧ f 16 = .bool nowOn_1 ∧ f 17 = .bool nowOff_1 ∧ Kp F h0 F' h ∧ St F' (Ow.box b_1 24 #[.bool s_Exclude, vs_On, vs_Off] :: Ow.box b_2 29 #[.bool false, .slice none 0 0, .slice none 0 0, .slice none 0 0, .slice none 0 0, .bool false, .slice none 0 0, .bool false] :: Ow.box b_3 29 #[.bool out_0_1, vout_1_1, vout_2_1, vout_3_2, vout_4_1, .bool out_5_1, vout_6_1, .bool out_7_1] :: Ow.own 34 17 e_api_Addr vout_1_1 out_1_1 :: Ow.own 34 17 e_api_Addr vout_2_1 out_2_1 :: Ow.own 34 17 e_api_Addr vout_3_2 out_3_2 :: Ow.own 34 17 e_api_Addr vout_4_1 out_4_1 :: Ow.own 34 17 e_api_Addr vout_6_1 out_6_1 :: Ow.box b_5 34 (e_api_Addr (gi r_3 i_1)).toArray :: fr) h ∧ (SliceF F' h 17 e_api_Addr vs_On s_On) ∧ (SliceF F' h 17 e_api_Addr vs_Off s_Off) ∧ (SliceF F' h 17 e_api_Addr vb b) ∧ (SliceF F' h 17 e_api_Addr vr_1 r_1) ∧ (SliceF F' h 17 e_api_Addr vr_2 r_2) ∧ (SliceF F' h 17 e_api_Addr vr_3 r_3) ∧ ref15_Apply_j4 s_Exclude kind ex_1 r_3 out_1_1 out_2_1 out_4_1 out_6_1 i_1 K_1 r_4 r_5 r_6 out_3_2 nowOn_1 nowOff_1) ?_ ?_
          · refine HW.seq_mid (fun f h => ∃ (F' : Fz) (b_6 : Bool), f 1 = .int .i64 kind ∧ f 2 = vb ∧ f 3 = .pointer (some ⟨b_1, 0, none⟩) ∧ f 6 = .pointer (some ⟨b_2, 0, none⟩) ∧ f 7 = .pointer (some ⟨b_3, 0, none⟩) ∧ f 8 = .bool b_4 ∧ f 9 = .bool ex_1 ∧ f 10 = vr_3 ∧ f 11 = .int .i64 i_1 ∧ f 12 = .pointer (some ⟨b_5, 0, none⟩) ∧ f 13 = .bool r_4 ∧ f 14 = .bool r_5 ∧ f 15 = .bool r_6 ∧ f 16 = .bool r_4 ∧ f 17 = .bool r_5 ∧ f 84 = .bool b_6 ∧ Kp F h0 F' h ∧ St F' (Ow.box b_1 24 #[.bool s_Exclude, vs_On, vs_Off] :: Ow.box b_2 29 #[.bool false, .slice none 0 0, .slice none 0 0, .slice none 0 0, .slice none 0 0, .bool false, .slice none 0 0, .bool false] :: Ow.box b_3 29 #[.bool out_0_1, vout_1_1, vout_2_1, vout_3_1, vout_4_1, .bool out_5_1, vout_6_1, .bool out_7_1] :: Ow.own 34 17 e_api_Addr vout_1_1 out_1_1 :: Ow.own 34 17 e_api_Addr vout_2_1 out_2_1 :: Ow.own 34 17 e_api_Addr vout_3_1 out_3_1 :: Ow.own 34 17 e_api_Addr vout_4_1 out_4_1 :: Ow.own 34 17 e_api_Addr vout_6_1 out_6_1 :: Ow.box b_5 34 (e_api_Addr (gi r_3 i_1)).toArray :: fr) h ∧ (SliceF F' h 17 e_api_Addr vs_On s_On) ∧ (SliceF F' h 17 e_api_Addr vs_Off s_Off) ∧ (SliceF F' h 17 e_api_Addr vb b) ∧ (SliceF F' h 17 e_api_Addr vr_1 r_1) ∧ (SliceF F' h 17 e_api_Addr vr_2 r_2) ∧ (SliceF F' h 17 e_api_Addr vr_3 r_3) ∧ ref15_Apply_j5 s_Exclude kind ex_1 r_3 out_1_1 out_2_1 out_3_1 out_4_1 out_6_1 i_1 K_1 r_4 r_5 r_6 b_6) ?_ ?_
            · refine HW.region ?_
              refine HO.val (v := .bool b_4) (want_none) rfl (q_move rfl) ?_
              refine HO.val (v := .bool b_4) (want_none) rfl (q_move rfl) ?_
              rcases Bool.eq_false_or_eq_true b_4 with c_9 | c_9
              · replace hM := hM.1 c_9
                refine HO.val (v := .bool r_6) (want_by rfl rfl c_9) rfl (q_move rfl) ?_
                refine HO.val (v := .bool r_6) (want_none) rfl (q_pickK true rfl c_9 rfl) ?_
                refine HO.nil (thenQ_normal (?_))
                replace hS : St F_10 (Ow.box b_1 24 #[.bool s_Exclude, vs_On, vs_Off] :: Ow.box b_2 29 #[.bool false, .slice none 0 0, .slice none 0 0, .slice none 0 0, .slice none 0 0, .bool false, .slice none 0 0, .bool false] :: Ow.box b_3 29 #[.bool out_0_1, vout_1_1, vout_2_1, vout_3_1, vout_4_1, .bool out_5_1, vout_6_1, .bool out_7_1] :: Ow.own 34 17 e_api_Addr vout_1_1 out_1_1 :: Ow.own 34 17 e_api_Addr vout_2_1 out_2_1 :: Ow.own 34 17 e_api_Addr vout_3_1 out_3_1 :: Ow.own 34 17 e_api_Addr vout_4_1 out_4_1 :: Ow.own 34 17 e_api_Addr vout_6_1 out_6_1 :: Ow.box b_5 34 (e_api_Addr (gi r_3 i_1)).toArray :: fr) h_20 := hS.perm2 [1, 2, 3, 4, 5, 6, 7, 8, 0] 9 rfl rfl
                exact ⟨F_10, r_6, rfl, rfl, rfl, rfl, rfl, rfl, rfl, rfl, rfl, rfl, rfl, rfl, rfl, rfl, rfl, rfl, hK, hS, hL_s_On, hL_s_Off, hL_b, hL_1, hL_2, hL_3, hM⟩
              · replace hM := hM.2 c_9
                refine HO.past (past_by rfl rfl c_9) rfl ?_
                refine HO.val (v := .bool false) (want_none) rfl (q_pickK false rfl c_9 rfl) ?_
                refine HO.nil (thenQ_normal (?_))
                replace hS : St F_10 (Ow.box b_1 24 #[.bool s_Exclude, vs_On, vs_Off] :: Ow.box b_2 29 #[.bool false, .slice none 0 0, .slice none 0 0, .slice none 0 0, .slice none 0 0, .bool false, .slice none 0 0, .bool false] :: Ow.box b_3 29 #[.bool out_0_1, vout_1_1, vout_2_1, vout_3_1, vout_4_1, .bool out_5_1, vout_6_1, .bool out_7_1] :: Ow.own 34 17 e_api_Addr vout_1_1 out_1_1 :: Ow.own 34 17 e_api_Addr vout_2_1 out_2_1 :: Ow.own 34 17 e_api_Addr vout_3_1 out_3_1 :: Ow.own 34 17 e_api_Addr vout_4_1 out_4_1 :: Ow.own 34 17 e_api_Addr vout_6_1 out_6_1 :: Ow.box b_5 34 (e_api_Addr (gi r_3 i_1)).toArray :: fr) h_20 := hS.perm2 [1, 2, 3, 4, 5, 6, 7, 8, 0] 9 rfl rfl
                exact ⟨F_10, false, rfl, rfl, rfl, rfl, rfl, rfl, rfl, rfl, rfl, rfl, rfl, rfl, rfl, rfl, rfl, rfl, hK, hS, hL_s_On, hL_s_Off, hL_b, hL_1, hL_2, hL_3, hM⟩
            · rintro f_5 h_21 ⟨F_11, b_6, e1, e2, e3, e6, e7, e8, e9, e10, e11, e12, e13, e14, e15, e16, e17, e84, hK, hS, hL_s_On, hL_s_Off, hL_b, hL_1, hL_2, hL_3, hM⟩
              unfold ref15_Apply_j5 at hM
              refine HW.fr [(1, .int .i64 kind), (2, vb), (3, .pointer (some ⟨b_1, 0, none⟩)), (6, .pointer (some ⟨b_2, 0, none⟩)), (7, .pointer (some ⟨b_3, 0, none⟩)), (8, .bool b_4), (9, .bool ex_1), (10, vr_3), (11, .int .i64 i_1), (12, .pointer (some ⟨b_5, 0, none⟩)), (13, .bool r_4), (14, .bool r_5), (15, .bool r_6), (16, .bool r_4), (17, .bool r_5), (84, .bool b_6)] ⟨e1, e2, e3, e6, e7, e8, e9, e10, e11, e12, e13, e14, e15, e16, e17, e84, trivial⟩ ?_
              refine HW.cond b_6 rfl (fun c_10 => ?_) (fun c_10 => ?_)
              · replace hM := hM.1 c_10
                refine HW.region ?_
                refine HO.val (v := .pointer (some ⟨b_3, 3, none⟩)) (want_none) rfl (q_fieldAddr fa_29_1 rfl rfl) ?_
                refine HO.val (v := vout_3_1) (want_none) rfl (q_load to_22 rfl (Blk.cell (hS.box 2 rfl) rfl)) ?_
                refine HO.val (v := .agg (e_api_Addr (gi r_3 i_1)).toArray) (want_none) rfl (q_loadAgg (cs := (e_api_Addr (gi r_3 i_1))) ta_34 rfl rfl (Blk.cells (k := 17) (hS.box 8 rfl) rfl)) ?_
                refine HO.eff (want_none) rfl (st_lit (enc := e_api_Addr) (cells := #[.bool ((gi r_3 i_1).1), .int .u8 (b8 ((gi r_3 i_1).2) 0), .int .u8 (b8 ((gi r_3 i_1).2) 1), .int .u8 (b8 ((gi r_3 i_1).2) 2), .int .u8 (b8 ((gi r_3 i_1).2) 3), .int .u8 (b8 ((gi r_3 i_1).2) 4), .int .u8 (b8 ((gi r_3 i_1).2) 5), .int .u8 (b8 ((gi r_3 i_1).2) 6), .int .u8 (b8 ((gi r_3 i_1).2) 7), .int .u8 (b8 ((gi r_3 i_1).2) 8), .int .u8 (b8 ((gi r_3 i_1).2) 9), .int .u8 (b8 ((gi r_3 i_1).2) 10), .int .u8 (b8 ((gi r_3 i_1).2) 11), .int .u8 (b8 ((gi r_3 i_1).2) 12), .int .u8 (b8 ((gi r_3 i_1).2) 13), .int .u8 (b8 ((gi r_3 i_1).2) 14), .int .u8 (b8 ((gi r_3 i_1).2) 15)]) #[.bool false, .int .u8 0, .int .u8 0, .int .u8 0, .int .u8 0, .int .u8 0, .int .u8 0, .int .u8 0, .int .u8 0, .int .u8 0, .int .u8 0, .int .u8 0, .int .u8 0, .int .u8 0, .int .u8 0, .int .u8 0, .int .u8 0] ([(gi r_3 i_1)] : List T_api_Addr) hS tl_22 (by decide) (by decide) (by kernel_rfl) (by kernel_rfl) rfl (by intro x hx; rfl) rfl) ?_
                rintro _ h_22 ⟨b_7, rfl, hS, hk⟩
                replace hK := hK.trans hk
                replace hL_s_On := hL_s_On.kp hk
                replace hL_s_Off := hL_s_Off.kp hk
                replace hL_b := hL_b.kp hk
                replace hL_1 := hL_1.kp hk
                replace hL_2 := hL_2.kp hk
                replace hL_3 := hL_3.kp hk
                obtain ⟨ho_2, hM⟩ := hM
                refine HO.eff (want_none) rfl (st_append te_22 hS (i := 6) rfl (hS.own 0 rfl).slice rfl rfl rfl (by intro a _ u hu; simp [e_api_Addr, encI, encN, encB, encT] at hu; rcases hu with rfl | rfl | rfl | rfl | rfl | rfl | rfl | rfl | rfl | rfl | rfl | rfl | rfl | rfl | rfl | rfl | rfl <;> rfl) ho_2 (by omega)) ?_
                rintro v_1 h_23 ⟨hS, hk⟩
                replace hS : St F_11 (Ow.own 34 17 e_api_Addr (.slice (some ⟨b_7, 0, none⟩) 1 1) ([(gi r_3 i_1)] : List T_api_Addr) :: Ow.box b_1 24 #[.bool s_Exclude, vs_On, vs_Off] :: Ow.box b_2 29 #[.bool false, .slice none 0 0, .slice none 0 0, .slice none 0 0, .slice none 0 0, .bool false, .slice none 0 0, .bool false] :: Ow.box b_3 29 #[.bool out_0_1, vout_1_1, vout_2_1, vout_3_1, vout_4_1, .bool out_5_1, vout_6_1, .bool out_7_1] :: Ow.own 34 17 e_api_Addr vout_1_1 out_1_1 :: Ow.own 34 17 e_api_Addr vout_2_1 out_2_1 :: Ow.own 34 17 e_api_Addr v_1 (out_3_1 ++ ([(gi r_3 i_1)] : List T_api_Addr)) :: Ow.own 34 17 e_api_Addr vout_4_1 out_4_1 :: Ow.own 34 17 e_api_Addr vout_6_1 out_6_1 :: Ow.box b_5 34 (e_api_Addr (gi r_3 i_1)).toArray :: fr) h_23 := hS
                replace hK := hK.trans hk
                replace hL_s_On := hL_s_On.kp hk
                replace hL_s_Off := hL_s_Off.kp hk
                replace hL_b := hL_b.kp hk
                replace hL_1 := hL_1.kp hk
                replace hL_2 := hL_2.kp hk
                replace hL_3 := hL_3.kp hk
                refine HO.val (v := .bool true) (want_none) rfl (q_assign rfl) ?_
                refine HO.val (v := .bool false) (want_none) rfl (q_assign rfl) ?_
                refine HO.val (v := .pointer (some ⟨b_3, 3, none⟩)) (want_none) rfl (q_fieldAddr fa_29_1 rfl rfl) ?_
                refine HO.sto (want_none) rfl (st_store (c' := #[.bool out_0_1, vout_1_1, vout_2_1, v_1, vout_4_1, .bool out_5_1, vout_6_1, .bool out_7_1]) hS (i := 3) rfl to_22 rfl rfl (shp (hS.own 6 rfl).slice).cells (shp (hS.own 6 rfl).slice).one (Nat.le_of_ble_eq_true rfl) rfl) ?_
                rintro h_24 ⟨hS, hk⟩
                replace hS : St F_11 (Ow.own 34 17 e_api_Addr (.slice (some ⟨b_7, 0, none⟩) 1 1) ([(gi r_3 i_1)] : List T_api_Addr) :: Ow.box b_1 24 #[.bool s_Exclude, vs_On, vs_Off] :: Ow.box b_2 29 #[.bool false, .slice none 0 0, .slice none 0 0, .slice none 0 0, .slice none 0 0, .bool false, .slice none 0 0, .bool false] :: Ow.box b_3 29 #[.bool out_0_1, vout_1_1, vout_2_1, v_1, vout_4_1, .bool out_5_1, vout_6_1, .bool out_7_1] :: Ow.own 34 17 e_api_Addr vout_1_1 out_1_1 :: Ow.own 34 17 e_api_Addr vout_2_1 out_2_1 :: Ow.own 34 17 e_api_Addr v_1 (out_3_1 ++ ([(gi r_3 i_1)] : List T_api_Addr)) :: Ow.own 34 17 e_api_Addr vout_4_1 out_4_1 :: Ow.own 34 17 e_api_Addr vout_6_1 out_6_1 :: Ow.box b_5 34 (e_api_Addr (gi r_3 i_1)).toArray :: fr) h_24 := hS
                replace hK := hK.trans hk
                replace hL_s_On := hL_s_On.kp hk
                replace hL_s_Off := hL_s_Off.kp hk
                replace hL_b := hL_b.kp hk
                replace hL_1 := hL_1.kp hk
                replace hL_2 := hL_2.kp hk
                replace hL_3 := hL_3.kp hk
                refine HO.nil (thenQ_normal (?_))
                replace hS : St F_11 (Ow.box b_1 24 #[.bool s_Exclude, vs_On, vs_Off] :: Ow.box b_2 29 #[.bool false, .slice none 0 0, .slice none 0 0, .slice none 0 0, .slice none 0 0, .bool false, .slice none 0 0, .bool false] :: Ow.box b_3 29 #[.bool out_0_1, vout_1_1, vout_2_1, v_1, vout_4_1, .bool out_5_1, vout_6_1, .bool out_7_1] :: Ow.own 34 17 e_api_Addr vout_1_1 out_1_1 :: Ow.own 34 17 e_api_Addr vout_2_1 out_2_1 :: Ow.own 34 17 e_api_Addr v_1 (out_3_1 ++ ([(gi r_3 i_1)] : List T_api_Addr)) :: Ow.own 34 17 e_api_Addr vout_4_1 out_4_1 :: Ow.own 34 17 e_api_Addr vout_6_1 out_6_1 :: Ow.box b_5 34 (e_api_Addr (gi r_3 i_1)).toArray :: fr) h_24 := hS.perm2 [1, 2, 3, 4, 5, 6, 7, 8, 9] 10 rfl rfl
                exact ⟨F_11, out_3_1 ++ ([(gi r_3 i_1)] : List T_api_Addr), true, false, v_1, rfl, rfl, rfl, rfl, rfl, rfl, rfl, rfl, rfl, rfl, rfl, rfl, rfl, rfl, rfl, hK, hS, hL_s_On, hL_s_Off, hL_b, hL_1, hL_2, hL_3, hM⟩
              · replace hM := hM.2 c_10
                refine HW.skip (thenQ_normal (?_))
                exact ⟨F_11, out_3_1, r_4, r_5, vout_3_1, rfl, rfl, rfl, rfl, rfl, rfl, rfl, rfl, rfl, rfl, rfl, rfl, rfl, rfl, rfl, hK, hS, hL_s_On, hL_s_Off, hL_b, hL_1, hL_2, hL_3, hM⟩
          · rintro f_6 h_25 ⟨F_12, out_3_2, nowOn_1, nowOff_1, vout_3_2, e1, e2, e3, e6, e7, e8, e9, e10, e11, e12, e13, e14, e15, e16, e17, hK, hS, hL_s_On, hL_s_Off, hL_b, hL_1, hL_2, hL_3, hM⟩
            unfold ref15_Apply_j4 at hM
            refine HW.fr [(1, .int .i64 kind), (2, vb), (3, .pointer (some ⟨b_1, 0, none⟩)), (6, .pointer (some ⟨b_2, 0, none⟩)), (7, .pointer (some ⟨b_3, 0, none⟩)), (8, .bool b_4), (9, .bool ex_1), (10, vr_3), (11, .int .i64 i_1), (12, .pointer (some ⟨b_5, 0, none⟩)), (13, .bool r_4), (14, .bool r_5), (15, .bool r_6), (16, .bool nowOn_1), (17, .bool nowOff_1)] ⟨e1, e2, e3, e6, e7, e8, e9, e10, e11, e12, e13, e14, e15, e16, e17, trivial⟩ ?_
            refine HW.seq_mid (fun f h => ∃ (F' : Fz) (nowOn_2 : Bool) (nowOff_2 : Bool), f 1 = .int .i64 kind ∧ f 2 = vb ∧ f 3 = .pointer (some ⟨b_1, 0, none⟩) ∧ f 6 = .pointer (some ⟨b_2, 0, none⟩) ∧ f 7 = .pointer (some ⟨b_3, 0, none⟩) ∧ f 8 = .bool b_4 ∧ f 9 = .bool ex_1 ∧ f 10 = vr_3 ∧ f 11 = .int .i64 i_1 ∧ f 12 = .pointer (some ⟨b_5, 0, none⟩) ∧ f 13 = .bool r_4 ∧ f 14 = .bool r_5 ∧ f 15 = .bool r_6 ∧ f 16 = .bool nowOn_2 ∧ f 17 = .bool nowOff_2 ∧ Kp F h0 F' h ∧ St F' (Ow.box b_1 24 #[.bool s_Exclude, vs_On, vs_Off] :: Ow.box b_2 29 #[.bool false, .slice none 0 0, .slice none 0 0, .slice none 0 0, .slice none 0 0, .bool false, .slice none 0 0, .bool false] :: Ow.box b_3 29 #[.bool out_0_1, vout_1_1, vout_2_1, vout_3_2, vout_4_1, .bool out_5_1, vout_6_1, .bool out_7_1] :: Ow.own 34 17 e_api_Addr vout_1_1 out_1_1 :: Ow.own 34 17 e_api_Addr vout_2_1 out_2_1 :: Ow.own 34 17 e_api_Addr vout_3_2 out_3_2 :: Ow.own 34 17 e_api_Addr vout_4_1 out_4_1 :: Ow.own 34 17 e_api_Addr vout_6_1 out_6_1 :: Ow.box b_5 34 (e_api_Addr (gi r_3 i_1)).toArray :: fr) h ∧ (SliceF F' h 17 e_api_Addr vs_On s_On) ∧ (SliceF F' h 17 e_api_Addr vs_Off s_Off) ∧ (SliceF F' h 17 e_api_Addr vb b) ∧ (SliceF F' h 17 e_api_Addr vr_1 r_1) ∧ (SliceF F' h 17 e_api_Addr vr_2 r_2) ∧ (SliceF F' h 17 e_api_Addr vr_3 r_3) ∧ ref15_Apply_j6 s_Exclude kind ex_1 r_3 out_1_1 out_2_1 out_4_1 out_6_1 i_1 K_1 r_4 r_5 r_6 out_3_2 nowOn_2 nowOff_2) ?_ ?_
            · refine HW.seq ?_
              refine HW.region ?_
              refine HO.val (v := .bool ex_1) (want_none) rfl (q_move rfl) ?_
              refine HO.val (v := .bool ex_1) (want_none) rfl (q_move rfl) ?_
              rcases Bool.eq_false_or_eq_true ex_1 with c_11 | c_11
              · replace hM := hM.1 c_11
                refine HO.val (v := .bool r_6) (want_by rfl rfl c_11) rfl (q_move rfl) ?_
                refine HO.val (v := .bool (!r_6)) (want_by rfl rfl c_11) rfl (q_not rfl) ?_
                refine HO.val (v := .bool (!r_6)) (want_none) rfl (q_pickK true rfl c_11 rfl) ?_
                refine HO.nil (thenQ_normal (?_))
                refine HW.cond (!r_6) rfl (fun c_12 => ?_) (fun c_12 => ?_)
                · replace hM := hM.1 c_12
                  refine HW.region ?_
                  refine HO.val (v := .bool false) (want_none) rfl (q_assign rfl) ?_
                  refine HO.val (v := .bool false) (want_none) rfl (q_assign rfl) ?_
                  refine HO.nil (thenQ_normal (?_))
                  exact ⟨F_12, false, false, rfl, rfl, rfl, rfl, rfl, rfl, rfl, rfl, rfl, rfl, rfl, rfl, rfl, rfl, rfl, hK, hS, hL_s_On, hL_s_Off, hL_b, hL_1, hL_2, hL_3, hM⟩
                · replace hM := hM.2 c_12
                  refine HW.skip (thenQ_normal (?_))
                  exact ⟨F_12, nowOn_1, nowOff_1, rfl, rfl, rfl, rfl, rfl, rfl, rfl, rfl, rfl, rfl, rfl, rfl, rfl, rfl, rfl, hK, hS, hL_s_On, hL_s_Off, hL_b, hL_1, hL_2, hL_3, hM⟩
              · replace hM := hM.2 c_11
                refine HO.past (past_by rfl rfl c_11) rfl ?_
                refine HO.past (past_by rfl rfl c_11) rfl ?_
                refine HO.val (v := .bool false) (want_none) rfl (q_pickK false rfl c_11 rfl) ?_
                refine HO.nil (thenQ_normal (?_))
                refine HW.condF rfl ?_
                refine HW.skip (thenQ_normal (?_))
                exact ⟨F_12, nowOn_1, nowOff_1, rfl, rfl, rfl, rfl, rfl, rfl, rfl, rfl, rfl, rfl, rfl, rfl, rfl, rfl, rfl, hK, hS, hL_s_On, hL_s_Off, hL_b, hL_1, hL_2, hL_3, hM⟩
            · rintro f_7 h_26 ⟨F_13, nowOn_2, nowOff_2, e1, e2, e3, e6, e7, e8, e9, e10, e11, e12, e13, e14, e15, e16, e17, hK, hS, hL_s_On, hL_s_Off, hL_b, hL_1, hL_2, hL_3, hM⟩
              unfold ref15_Apply_j6 at hM
              refine HW.fr [(1, .int .i64 kind), (2, vb), (3, .pointer (some ⟨b_1, 0, none⟩)), (6, .pointer (some ⟨b_2, 0, none⟩)), (7, .pointer (some ⟨b_3, 0, none⟩)), (8, .bool b_4), (9, .bool ex_1), (10, vr_3), (11, .int .i64 i_1), (12, .pointer (some ⟨b_5, 0, none⟩)), (13, .bool r_4), (14, .bool r_5), (15, .bool r_6), (16, .bool nowOn_2), (17, .bool nowOff_2)] ⟨e1, e2, e3, e6, e7, e8, e9, e10, e11, e12, e13, e14, e15, e16, e17, trivial⟩ ?_
              refine HW.seq_mid (fun f h => ∃ (F' : Fz) (nowOff_3 : Bool), f 1 = .int .i64 kind ∧ f 2 = vb ∧ f 3 = .pointer (some ⟨b_1, 0, none⟩) ∧ f 6 = .pointer (some ⟨b_2, 0, none⟩) ∧ f 7 = .pointer (some ⟨b_3, 0, none⟩) ∧ f 8 = .bool b_4 ∧ f 9 = .bool ex_1 ∧ f 10 = vr_3 ∧ f 11 = .int .i64 i_1 ∧ f 12 = .pointer (some ⟨b_5, 0, none⟩) ∧ f 13 = .bool r_4 ∧ f 14 = .bool r_5 ∧ f 15 = .bool r_6 ∧ f 16 = .bool nowOn_2 ∧ f 17 = .bool nowOff_3 ∧ Kp F h0 F' h ∧ St F' (Ow.box b_1 24 #[.bool s_Exclude, vs_On, vs_Off] :: Ow.box b_2 29 #[.bool false, .slice none 0 0, .slice none 0 0, .slice none 0 0, .slice none 0 0, .bool false, .slice none 0 0, .bool false] :: Ow.box b_3 29 #[.bool out_0_1, vout_1_1, vout_2_1, vout_3_2, vout_4_1, .bool out_5_1, vout_6_1, .bool out_7_1] :: Ow.own 34 17 e_api_Addr vout_1_1 out_1_1 :: Ow.own 34 17 e_api_Addr vout_2_1 out_2_1 :: Ow.own 34 17 e_api_Addr vout_3_2 out_3_2 :: Ow.own 34 17 e_api_Addr vout_4_1 out_4_1 :: Ow.own 34 17 e_api_Addr vout_6_1 out_6_1 :: Ow.box b_5 34 (e_api_Addr (gi r_3 i_1)).toArray :: fr) h ∧ (SliceF F' h 17 e_api_Addr vs_On s_On) ∧ (SliceF F' h 17 e_api_Addr vs_Off s_Off) ∧ (SliceF F' h 17 e_api_Addr vb b) ∧ (SliceF F' h 17 e_api_Addr vr_1 r_1) ∧ (SliceF F' h 17 e_api_Addr vr_2 r_2) ∧ (SliceF F' h 17 e_api_Addr vr_3 r_3) ∧ ref15_Apply_j7 s_Exclude kind ex_1 r_3 out_1_1 out_2_1 out_4_1 out_6_1 i_1 K_1 r_4 r_5 r_6 out_3_2 nowOn_2 nowOff_3) ?_ ?_
              · refine HW.seq ?_
                refine HW.region ?_
                refine HO.val (v := .bool r_6) (want_none) rfl (q_move rfl) ?_
                refine HO.val (v := .bool r_6) (want_none) rfl (q_move rfl) ?_
                rcases Bool.eq_false_or_eq_true r_6 with c_13 | c_13
                · replace hM := hM.1 c_13
                  refine HO.val (v := .bool r_4) (want_by rfl rfl c_13) rfl (q_move rfl) ?_
                  refine HO.val (v := .bool (!r_4)) (want_by rfl rfl c_13) rfl (q_not rfl) ?_
                  refine HO.val (v := .bool (!r_4)) (want_none) rfl (q_pickK true rfl c_13 rfl) ?_
                  refine HO.val (v := .bool (!r_4)) (want_none) rfl (q_move rfl) ?_
                  rcases Bool.eq_false_or_eq_true (!r_4) with c_14 | c_14
                  · replace hM := hM.1 c_14
                    refine HO.val (v := .bool r_5) (want_by rfl rfl c_14) rfl (q_move rfl) ?_
                    refine HO.val (v := .bool (!r_5)) (want_by rfl rfl c_14) rfl (q_not rfl) ?_
                    refine HO.val (v := .bool (!r_5)) (want_none) rfl (q_pickK true rfl c_14 rfl) ?_
                    refine HO.val (v := .bool (!r_5)) (want_none) rfl (q_move rfl) ?_
                    rcases Bool.eq_false_or_eq_true (!r_5) with c_15 | c_15
                    · replace hM := hM.1 c_15
                      refine HO.val (v := .pointer (some ⟨b_1, 0, none⟩)) (want_by rfl rfl c_15) rfl (q_fieldAddr fa_24_0 rfl rfl) ?_
                      refine HO.val (v := .bool s_Exclude) (want_by rfl rfl c_15) rfl (q_load to_4 rfl (Blk.cell (hS.box 0 rfl) rfl)) ?_
                      refine HO.val (v := .bool (!s_Exclude)) (want_by rfl rfl c_15) rfl (q_not rfl) ?_
                      refine HO.val (v := .bool (!s_Exclude)) (want_none) rfl (q_pickK true rfl c_15 rfl) ?_
                      refine HO.val (v := .bool (!s_Exclude)) (want_none) rfl (q_move rfl) ?_
                      rcases Bool.eq_false_or_eq_true (!s_Exclude) with c_16 | c_16
                      · replace hM := hM.1 c_16
                        refine HO.val (v := .bool ex_1) (want_by rfl rfl c_16) rfl (q_move rfl) ?_
                        refine HO.val (v := .bool ex_1) (want_none) rfl (q_pickK true rfl c_16 rfl) ?_
                        refine HO.nil (thenQ_normal (?_))
                        refine HW.cond ex_1 rfl (fun c_17 => ?_) (fun c_17 => ?_)
                        · replace hM := hM.1 c_17
                          refine HW.region ?_
                          refine HO.val (v := .bool true) (want_none) rfl (q_assign rfl) ?_
                          refine HO.nil (thenQ_normal (?_))
                          exact ⟨F_13, true, rfl, rfl, rfl, rfl, rfl, rfl, rfl, rfl, rfl, rfl, rfl, rfl, rfl, rfl, rfl, hK, hS, hL_s_On, hL_s_Off, hL_b, hL_1, hL_2, hL_3, hM⟩
                        · replace hM := hM.2 c_17
                          refine HW.skip (thenQ_normal (?_))
                          exact ⟨F_13, nowOff_2, rfl, rfl, rfl, rfl, rfl, rfl, rfl, rfl, rfl, rfl, rfl, rfl, rfl, rfl, rfl, hK, hS, hL_s_On, hL_s_Off, hL_b, hL_1, hL_2, hL_3, hM⟩
                      · replace hM := hM.2 c_16
                        refine HO.past (past_by rfl rfl c_16) rfl ?_
                        refine HO.val (v := .bool false) (want_none) rfl (q_pickK false rfl c_16 rfl) ?_
                        refine HO.nil (thenQ_normal (?_))
                        refine HW.condF rfl ?_
                        refine HW.skip (thenQ_normal (?_))
                        exact ⟨F_13, nowOff_2, rfl, rfl, rfl, rfl, rfl, rfl, rfl, rfl, rfl, rfl, rfl, rfl, rfl, rfl, rfl, hK, hS, hL_s_On, hL_s_Off, hL_b, hL_1, hL_2, hL_3, hM⟩
                    · replace hM := hM.2 c_15
                      refine HO.past (past_by rfl rfl c_15) rfl ?_
                      refine HO.past (past_by rfl rfl c_15) rfl ?_
                      refine HO.past (past_by rfl rfl c_15) rfl ?_
                      refine HO.val (v := .bool false) (want_none) rfl (q_pickK false rfl c_15 rfl) ?_
                      refine HO.val (v := .bool false) (want_none) rfl (q_move rfl) ?_
                      refine HO.past (past_some rfl rfl) rfl ?_
                      refine HO.val (v := .bool false) (want_none) rfl (q_pick rfl rfl) ?_
                      refine HO.nil (thenQ_normal (?_))
                      refine HW.condF rfl ?_
                      refine HW.skip (thenQ_normal (?_))
                      exact ⟨F_13, nowOff_2, rfl, rfl, rfl, rfl, rfl, rfl, rfl, rfl, rfl, rfl, rfl, rfl, rfl, rfl, rfl, hK, hS, hL_s_On, hL_s_Off, hL_b, hL_1, hL_2, hL_3, hM⟩
                  · replace hM := hM.2 c_14
                    refine HO.past (past_by rfl rfl c_14) rfl ?_
                    refine HO.past (past_by rfl rfl c_14) rfl ?_
                    refine HO.val (v := .bool false) (want_none) rfl (q_pickK false rfl c_14 rfl) ?_
                    refine HO.val (v := .bool false) (want_none) rfl (q_move rfl) ?_
                    refine HO.past (past_some rfl rfl) rfl ?_
                    refine HO.past (past_some rfl rfl) rfl ?_
                    refine HO.past (past_some rfl rfl) rfl ?_
                    refine HO.val (v := .bool false) (want_none) rfl (q_pick rfl rfl) ?_
                    refine HO.val (v := .bool false) (want_none) rfl (q_move rfl) ?_
                    refine HO.past (past_some rfl rfl) rfl ?_
                    refine HO.val (v := .bool false) (want_none) rfl (q_pick rfl rfl) ?_
                    refine HO.nil (thenQ_normal (?_))
                    refine HW.condF rfl ?_
                    refine HW.skip (thenQ_normal (?_))
                    exact ⟨F_13, nowOff_2, rfl, rfl, rfl, rfl, rfl, rfl, rfl, rfl, rfl, rfl, rfl, rfl, rfl, rfl, rfl, hK, hS, hL_s_On, hL_s_Off, hL_b, hL_1, hL_2, hL_3, hM⟩
                · replace hM := hM.2 c_13
                  refine HO.past (past_by rfl rfl c_13) rfl ?_
                  refine HO.past (past_by rfl rfl c_13) rfl ?_
                  refine HO.val (v := .bool false) (want_none) rfl (q_pickK false rfl c_13 rfl) ?_
                  refine HO.val (v := .bool false) (want_none) rfl (q_move rfl) ?_
                  refine HO.past (past_some rfl rfl) rfl ?_
                  refine HO.past (past_some rfl rfl) rfl ?_
                  refine HO.val (v := .bool false) (want_none) rfl (q_pick rfl rfl) ?_
                  refine HO.val (v := .bool false) (want_none) rfl (q_move rfl) ?_
                  refine HO.past (past_some rfl rfl) rfl ?_
                  refine HO.past (past_some rfl rfl) rfl ?_
                  refine HO.past (past_some rfl rfl) rfl ?_
                  refine HO.val (v := .bool false) (want_none) rfl (q_pick rfl rfl) ?_
                  refine HO.val (v := .bool false) (want_none) rfl (q_move rfl) ?_
                  refine HO.past (past_some rfl rfl) rfl ?_
                  refine HO.val (v := .bool false) (want_none) rfl (q_pick rfl rfl) ?_
                  refine HO.nil (thenQ_normal (?_))
                  refine HW.condF rfl ?_
                  refine HW.skip (thenQ_normal (?_))
                  exact ⟨F_13, nowOff_2, rfl, rfl, rfl, rfl, rfl, rfl, rfl, rfl, rfl, rfl, rfl, rfl, rfl, rfl, rfl, hK, hS, hL_s_On, hL_s_Off, hL_b, hL_1, hL_2, hL_3, hM⟩
              · rintro f_8 h_27 ⟨F_14, nowOff_3, e1, e2, e3, e6, e7, e8, e9, e10, e11, e12, e13, e14, e15, e16, e17, hK, hS, hL_s_On, hL_s_Off, hL_b, hL_1, hL_2, hL_3, hM⟩
                unfold ref15_Apply_j7 at hM
                refine HW.fr [(1, .int .i64 kind), (2, vb), (3, .pointer (some ⟨b_1, 0, none⟩)), (6, .pointer (some ⟨b_2, 0, none⟩)), (7, .pointer (some ⟨b_3, 0, none⟩)), (8, .bool b_4), (9, .bool ex_1), (10, vr_3), (11, .int .i64 i_1), (12, .pointer (some ⟨b_5, 0, none⟩)), (13, .bool r_4), (14, .bool r_5), (15, .bool r_6), (16, .bool nowOn_2), (17, .bool nowOff_3)] ⟨e1, e2, e3, e6, e7, e8, e9, e10, e11, e12, e13, e14, e15, e16, e17, trivial⟩ ?_
                refine HW.seq_mid (fun f h => ∃ (F' : Fz) (out_3_3 : List T_api_Addr) (out_4_2 : List T_api_Addr) (nowOn_3 : Bool) (vout_3_3 : Value) (vout_4_2 : Value), f 1 = .int .i64 kind ∧ f 2 = vb ∧ f 3 = .pointer (some ⟨b_1, 0, none⟩) ∧ f 6 = .pointer (some ⟨b_2, 0, none⟩) ∧ f 7 = .pointer (some ⟨b_3, 0, none⟩) ∧ f 8 = .bool b_4 ∧ f 9 = .bool ex_1 ∧ f 10 = vr_3 ∧ f 11 = .int .i64 i_1 ∧ f 12 = .pointer (some ⟨b_5, 0, none⟩) ∧ f 13 = .bool r_4 ∧ f 14 = .bool r_5 ∧ f 15 = .bool r_6 ∧ f 16 = .bool nowOn_3 ∧ f 17 = .bool nowOff_3 ∧ Kp F h0 F' h ∧ St F' (Ow.box b_1 24 #[.bool s_Exclude, vs_On, vs_Off] :: Ow.box b_2 29 #[.bool false, .slice none 0 0, .slice none 0 0, .slice none 0 0, .slice none 0 0, .bool false, .slice none 0 0, .bool false] :: Ow.box b_3 29 #[.bool out_0_1, vout_1_1, vout_2_1, vout_3_3, vout_4_2, .bool out_5_1, vout_6_1, .bool out_7_1] :: Ow.own 34 17 e_api_Addr vout_1_1 out_1_1 :: Ow.own 34 17 e_api_Addr vout_2_1 out_2_1 :: Ow.own 34 17 e_api_Addr vout_3_3 out_3_3 :: Ow.own 34 17 e_api_Addr vout_4_2 out_4_2 :: Ow.own 34 17 e_api_Addr vout_6_1 out_6_1 :: Ow.box b_5 34 (e_api_Addr (gi r_3 i_1)).toArray :: fr) h ∧ (SliceF F' h 17 e_api_Addr vs_On s_On) ∧ (SliceF F' h 17 e_api_Addr vs_Off s_Off) ∧ (SliceF F' h 17 e_api_Addr vb b) ∧ (SliceF F' h 17 e_api_Addr vr_1 r_1) ∧ (SliceF F' h 17 e_api_Addr vr_2 r_2) ∧ (SliceF F' h 17 e_api_Addr vr_3 r_3) ∧ ref15_Apply_j8 s_Exclude kind r_3 out_1_1 out_2_1 out_6_1 i_1 K_1 r_4 r_5 r_6 nowOff_3 out_3_3 out_4_2 nowOn_3) ?_ ?_
                · refine HW.seq_mid (fun f h => ∃ (F' : Fz) (b_8 : Bool), f 1 = .int .i64 kind ∧ f 2 = vb ∧ f 3 = .pointer (some ⟨b_1, 0, none⟩) ∧ f 6 = .pointer (some ⟨b_2, 0, none⟩) ∧ f 7 = .pointer (some ⟨b_3, 0, none⟩) ∧ f 8 = .bool b_4 ∧ f 9 = .bool ex_1 ∧ f 10 = vr_3 ∧ f 11 = .int .i64 i_1 ∧ f 12 = .pointer (some ⟨b_5, 0, none⟩) ∧ f 13 = .bool r_4 ∧ f 14 = .bool r_5 ∧ f 15 = .bool r_6 ∧ f 16 = .bool nowOn_2 ∧ f 17 = .bool nowOff_3 ∧ f 132 = .bool b_8 ∧ Kp F h0 F' h ∧ St F' (Ow.box b_1 24 #[.bool s_Exclude, vs_On, vs_Off] :: Ow.box b_2 29 #[.bool false, .slice none 0 0, .slice none 0 0, .slice none 0 0, .slice none 0 0, .bool false, .slice none 0 0, .bool false] :: Ow.box b_3 29 #[.bool out_0_1, vout_1_1, vout_2_1, vout_3_2, vout_4_1, .bool out_5_1, vout_6_1, .bool out_7_1] :: Ow.own 34 17 e_api_Addr vout_1_1 out_1_1 :: Ow.own 34 17 e_api_Addr vout_2_1 out_2_1 :: Ow.own 34 17 e_api_Addr vout_3_2 out_3_2 :: Ow.own 34 17 e_api_Addr vout_4_1 out_4_1 :: Ow.own 34 17 e_api_Addr vout_6_1 out_6_1 :: Ow.box b_5 34 (e_api_Addr (gi r_3 i_1)).toArray :: fr) h ∧ (SliceF F' h 17 e_api_Addr vs_On s_On) ∧ (SliceF F' h 17 e_api_Addr vs_Off s_Off) ∧ (SliceF F' h 17 e_api_Addr vb b) ∧ (SliceF F' h 17 e_api_Addr vr_1 r_1) ∧ (SliceF F' h 17 e_api_Addr vr_2 r_2) ∧ (SliceF F' h 17 e_api_Addr vr_3 r_3) ∧ ref15_Apply_j9 s_Exclude kind r_3 out_1_1 out_2_1 out_4_1 out_6_1 i_1 K_1 r_4 r_5 r_6 out_3_2 nowOn_2 nowOff_3 b_8) ?_ ?_
                  · refine HW.region ?_
                    refine HO.val (v := .bool r_6) (want_none) rfl (q_move rfl) ?_
                    refine HO.val (v := .bool r_6) (want_none) rfl (q_move rfl) ?_
                    rcases Bool.eq_false_or_eq_true r_6 with c_18 | c_18
                    · replace hM := hM.1 c_18
                      refine HO.val (v := .bool r_4) (want_by rfl rfl c_18) rfl (q_move rfl) ?_
                      refine HO.val (v := .bool (!r_4)) (want_by rfl rfl c_18) rfl (q_not rfl) ?_
                      refine HO.val (v := .bool (!r_4)) (want_none) rfl (q_pickK true rfl c_18 rfl) ?_
                      refine HO.val (v := .bool (!r_4)) (want_none) rfl (q_move rfl) ?_
                      rcases Bool.eq_false_or_eq_true (!r_4) with c_19 | c_19
                      · replace hM := hM.1 c_19
                        refine HO.val (v := .bool r_5) (want_by rfl rfl c_19) rfl (q_move rfl) ?_
                        refine HO.val (v := .bool (!r_5)) (want_by rfl rfl c_19) rfl (q_not rfl) ?_
                        refine HO.val (v := .bool (!r_5)) (want_none) rfl (q_pickK true rfl c_19 rfl) ?_
                        refine HO.val (v := .bool (!r_5)) (want_none) rfl (q_move rfl) ?_
                        rcases Bool.eq_false_or_eq_true (!r_5) with c_20 | c_20
                        · replace hM := hM.1 c_20
                          refine HO.val (v := .pointer (some ⟨b_1, 0, none⟩)) (want_by rfl rfl c_20) rfl (q_fieldAddr fa_24_0 rfl rfl) ?_
                          refine HO.val (v := .bool s_Exclude) (want_by rfl rfl c_20) rfl (q_load to_4 rfl (Blk.cell (hS.box 0 rfl) rfl)) ?_
                          refine HO.val (v := .bool s_Exclude) (want_none) rfl (q_pickK true rfl c_20 rfl) ?_
                          refine HO.val (v := .bool s_Exclude) (want_none) rfl (q_move rfl) ?_
                          rcases Bool.eq_false_or_eq_true s_Exclude with c_21 | c_21
                          · replace hM := hM.1 c_21
                            refine HO.val (v := .bool ex_1) (want_by rfl rfl c_21) rfl (q_move rfl) ?_
                            refine HO.val (v := .bool ex_1) (want_by rfl rfl c_21) rfl (q_move rfl) ?_
                            rcases Bool.eq_false_or_eq_true ex_1 with c_22 | c_22
                            · replace hM := hM.1 c_22
                              refine HO.past (past_by rfl rfl c_22) rfl ?_
                              refine HO.past (past_by rfl rfl c_22) rfl ?_
                              refine HO.val (v := .bool true) (want_by rfl rfl c_21) rfl (q_pickK true rfl c_22 rfl) ?_
                              refine HO.val (v := .bool true) (want_none) rfl (q_pickK true rfl c_21 rfl) ?_
                              refine HO.nil (thenQ_normal (?_))
                              exact ⟨F_14, true, rfl, rfl, rfl, rfl, rfl, rfl, rfl, rfl, rfl, rfl, rfl, rfl, rfl, rfl, rfl, rfl, hK, hS, hL_s_On, hL_s_Off, hL_b, hL_1, hL_2, hL_3, hM⟩
                            · replace hM := hM.2 c_22
                              refine HO.val (v := .int .i64 kind) (want_by rfl rfl c_22) rfl (q_move rfl) ?_
                              refine HO.val (v := .bool (decide (kind = 6))) (want_by rfl rfl c_22) rfl (q_eql rfl rfl) ?_
                              refine HO.val (v := .bool (decide (kind = 6))) (want_by rfl rfl c_21) rfl (q_pickK false rfl c_22 rfl) ?_
                              refine HO.val (v := .bool (decide (kind = 6))) (want_none) rfl (q_pickK true rfl c_21 rfl) ?_
                              refine HO.nil (thenQ_normal (?_))
                              exact ⟨F_14, decide (kind = 6), rfl, rfl, rfl, rfl, rfl, rfl, rfl, rfl, rfl, rfl, rfl, rfl, rfl, rfl, rfl, rfl, hK, hS, hL_s_On, hL_s_Off, hL_b, hL_1, hL_2, hL_3, hM⟩
                          · replace hM := hM.2 c_21
                            refine HO.past (past_by rfl rfl c_21) rfl ?_
                            refine HO.past (past_by rfl rfl c_21) rfl ?_
                            refine HO.past (past_undef rfl rfl) rfl ?_
                            refine HO.past (past_undef rfl rfl) rfl ?_
                            refine HO.past (past_by rfl rfl c_21) rfl ?_
                            refine HO.val (v := .bool false) (want_none) rfl (q_pickK false rfl c_21 rfl) ?_
                            refine HO.nil (thenQ_normal (?_))
                            exact ⟨F_14, false, rfl, rfl, rfl, rfl, rfl, rfl, rfl, rfl, rfl, rfl, rfl, rfl, rfl, rfl, rfl, rfl, hK, hS, hL_s_On, hL_s_Off, hL_b, hL_1, hL_2, hL_3, hM⟩
                        · replace hM := hM.2 c_20
                          refine HO.past (past_by rfl rfl c_20) rfl ?_
                          refine HO.past (past_by rfl rfl c_20) rfl ?_
                          refine HO.val (v := .bool false) (want_none) rfl (q_pickK false rfl c_20 rfl) ?_
                          refine HO.val (v := .bool false) (want_none) rfl (q_move rfl) ?_
                          refine HO.past (past_some rfl rfl) rfl ?_
                          refine HO.past (past_some rfl rfl) rfl ?_
                          refine HO.past (past_undef rfl rfl) rfl ?_
                          refine HO.past (past_undef rfl rfl) rfl ?_
                          refine HO.past (past_some rfl rfl) rfl ?_
                          refine HO.val (v := .bool false) (want_none) rfl (q_pick rfl rfl) ?_
                          refine HO.nil (thenQ_normal (?_))
                          exact ⟨F_14, false, rfl, rfl, rfl, rfl, rfl, rfl, rfl, rfl, rfl, rfl, rfl, rfl, rfl, rfl, rfl, rfl, hK, hS, hL_s_On, hL_s_Off, hL_b, hL_1, hL_2, hL_3, hM⟩
                      · replace hM := hM.2 c_19
                        refine HO.past (past_by rfl rfl c_19) rfl ?_
                        refine HO.past (past_by rfl rfl c_19) rfl ?_
                        refine HO.val (v := .bool false) (want_none) rfl (q_pickK false rfl c_19 rfl) ?_
                        refine HO.val (v := .bool false) (want_none) rfl (q_move rfl) ?_
                        refine HO.past (past_some rfl rfl) rfl ?_
                        refine HO.past (past_some rfl rfl) rfl ?_
                        refine HO.val (v := .bool false) (want_none) rfl (q_pick rfl rfl) ?_
                        refine HO.val (v := .bool false) (want_none) rfl (q_move rfl) ?_
                        refine HO.past (past_some rfl rfl) rfl ?_
                        refine HO.past (past_some rfl rfl) rfl ?_
                        refine HO.past (past_undef rfl rfl) rfl ?_
                        refine HO.past (past_undef rfl rfl) rfl ?_
                        refine HO.past (past_some rfl rfl) rfl ?_
                        refine HO.val (v := .bool false) (want_none) rfl (q_pick rfl rfl) ?_
                        refine HO.nil (thenQ_normal (?_))
                        exact ⟨F_14, false, rfl, rfl, rfl, rfl, rfl, rfl, rfl, rfl, rfl, rfl, rfl, rfl, rfl, rfl, rfl, rfl, hK, hS, hL_s_On, hL_s_Off, hL_b, hL_1, hL_2, hL_3, hM⟩
                    · replace hM := hM.2 c_18
                      refine HO.past (past_by rfl rfl c_18) rfl ?_
                      refine HO.past (past_by rfl rfl c_18) rfl ?_
                      refine HO.val (v := .bool false) (want_none) rfl (q_pickK false rfl c_18 rfl) ?_
                      refine HO.val (v := .bool false) (want_none) rfl (q_move rfl) ?_
                      refine HO.past (past_some rfl rfl) rfl ?_
                      refine HO.past (past_some rfl rfl) rfl ?_
                      refine HO.val (v := .bool false) (want_none) rfl (q_pick rfl rfl) ?_
                      refine HO.val (v := .bool false) (want_none) rfl (q_move rfl) ?_
                      refine HO.past (past_some rfl rfl) rfl ?_
                      refine HO.past (past_some rfl rfl) rfl ?_
                      refine HO.val (v := .bool false) (want_none) rfl (q_pick rfl rfl) ?_
                      refine HO.val (v := .bool false) (want_none) rfl (q_move rfl) ?_
                      refine HO.past (past_some rfl rfl) rfl ?_
                      refine HO.past (past_some rfl rfl) rfl ?_
                      refine HO.past (past_undef rfl rfl) rfl ?_
                      refine HO.past (past_undef rfl rfl) rfl ?_
                      refine HO.past (past_some rfl rfl) rfl ?_
                      refine HO.val (v := .bool false) (want_none) rfl (q_pick rfl rfl) ?_
                      refine HO.nil (thenQ_normal (?_))
                      exact ⟨F_14, false, rfl, rfl, rfl, rfl, rfl, rfl, rfl, rfl, rfl, rfl, rfl, rfl, rfl, rfl, rfl, rfl, hK, hS, hL_s_On, hL_s_Off, hL_b, hL_1, hL_2, hL_3, hM⟩
                  · rintro f_9 h_28 ⟨F_15, b_8, e1, e2, e3, e6, e7, e8, e9, e10, e11, e12, e13, e14, e15, e16, e17, e132, hK, hS, hL_s_On, hL_s_Off, hL_b, hL_1, hL_2, hL_3, hM⟩
                    unfold ref15_Apply_j9 at hM
                    refine HW.fr [(1, .int .i64 kind), (2, vb), (3, .pointer (some ⟨b_1, 0, none⟩)), (6, .pointer (some ⟨b_2, 0, none⟩)), (7, .pointer (some ⟨b_3, 0, none⟩)), (8, .bool b_4), (9, .bool ex_1), (10, vr_3), (11, .int .i64 i_1), (12, .pointer (some ⟨b_5, 0, none⟩)), (13, .bool r_4), (14, .bool r_5), (15, .bool r_6), (16, .bool nowOn_2), (17, .bool nowOff_3), (132, .bool b_8)] ⟨e1, e2, e3, e6, e7, e8, e9, e10, e11, e12, e13, e14, e15, e16, e17, e132, trivial⟩ ?_
                    refine HW.cond b_8 rfl (fun c_23 => ?_) (fun c_23 => ?_)
                    · replace hM := hM.1 c_23
                      refine HW.seq ?_
                      refine HW.region ?_
                      refine HO.val (v := .bool true) (want_none) rfl (q_assign rfl) ?_
                      refine HO.nil (thenQ_normal (?_))
                      refine HW.seq ?_
                      refine HW.region ?_
                      refine HO.val (v := .int .i64 kind) (want_none) rfl (q_move rfl) ?_
                      refine HO.val (v := .bool (decide (kind = 2))) (want_none) rfl (q_eql rfl rfl) ?_
                      refine HO.nil (thenQ_normal (?_))
                      refine HW.cond (decide (kind = 2)) rfl (fun c_24 => ?_) (fun c_24 => ?_)
                      · replace hM := hM.1 (of_decide_eq_true c_24)
                        refine HW.region ?_
                        refine HO.val (v := .pointer (some ⟨b_3, 3, none⟩)) (want_none) rfl (q_fieldAddr fa_29_1 rfl rfl) ?_
                        refine HO.val (v := vout_3_2) (want_none) rfl (q_load to_22 rfl (Blk.cell (hS.box 2 rfl) rfl)) ?_
                        refine HO.val (v := .agg (e_api_Addr (gi r_3 i_1)).toArray) (want_none) rfl (q_loadAgg (cs := (e_api_Addr (gi r_3 i_1))) ta_34 rfl rfl (Blk.cells (k := 17) (hS.box 8 rfl) rfl)) ?_
                        refine HO.eff (want_none) rfl (st_lit (enc := e_api_Addr) (cells := #[.bool ((gi r_3 i_1).1), .int .u8 (b8 ((gi r_3 i_1).2) 0), .int .u8 (b8 ((gi r_3 i_1).2) 1), .int .u8 (b8 ((gi r_3 i_1).2) 2), .int .u8 (b8 ((gi r_3 i_1).2) 3), .int .u8 (b8 ((gi r_3 i_1).2) 4), .int .u8 (b8 ((gi r_3 i_1).2) 5), .int .u8 (b8 ((gi r_3 i_1).2) 6), .int .u8 (b8 ((gi r_3 i_1).2) 7), .int .u8 (b8 ((gi r_3 i_1).2) 8), .int .u8 (b8 ((gi r_3 i_1).2) 9), .int .u8 (b8 ((gi r_3 i_1).2) 10), .int .u8 (b8 ((gi r_3 i_1).2) 11), .int .u8 (b8 ((gi r_3 i_1).2) 12), .int .u8 (b8 ((gi r_3 i_1).2) 13), .int .u8 (b8 ((gi r_3 i_1).2) 14), .int .u8 (b8 ((gi r_3 i_1).2) 15)]) #[.bool false, .int .u8 0, .int .u8 0, .int .u8 0, .int .u8 0, .int .u8 0, .int .u8 0, .int .u8 0, .int .u8 0, .int .u8 0, .int .u8 0, .int .u8 0, .int .u8 0, .int .u8 0, .int .u8 0, .int .u8 0, .int .u8 0] ([(gi r_3 i_1)] : List T_api_Addr) hS tl_22 (by decide) (by decide) (by kernel_rfl) (by kernel_rfl) rfl (by intro x hx; rfl) rfl) ?_
                        rintro _ h_29 ⟨b_9, rfl, hS, hk⟩
                        replace hK := hK.trans hk
                        replace hL_s_On := hL_s_On.kp hk
                        replace hL_s_Off := hL_s_Off.kp hk
                        replace hL_b := hL_b.kp hk
                        replace hL_1 := hL_1.kp hk
                        replace hL_2 := hL_2.kp hk
                        replace hL_3 := hL_3.kp hk
                        obtain ⟨ho_3, hM⟩ := hM
                        refine HO.eff (want_none) rfl (st_append te_22 hS (i := 6) rfl (hS.own 0 rfl).slice rfl rfl rfl (by intro a _ u hu; simp [e_api_Addr, encI, encN, encB, encT] at hu; rcases hu with rfl | rfl | rfl | rfl | rfl | rfl | rfl | rfl | rfl | rfl | rfl | rfl | rfl | rfl | rfl | rfl | rfl <;> rfl) ho_3 (by omega)) ?_
                        rintro v_2 h_30 ⟨hS, hk⟩
                        replace hS : St F_15 (Ow.own 34 17 e_api_Addr (.slice (some ⟨b_9, 0, none⟩) 1 1) ([(gi r_3 i_1)] : List T_api_Addr) :: Ow.box b_1 24 #[.bool s_Exclude, vs_On, vs_Off] :: Ow.box b_2 29 #[.bool false, .slice none 0 0, .slice none 0 0, .slice none 0 0, .slice none 0 0, .bool false, .slice none 0 0, .bool false] :: Ow.box b_3 29 #[.bool out_0_1, vout_1_1, vout_2_1, vout_3_2, vout_4_1, .bool out_5_1, vout_6_1, .bool out_7_1] :: Ow.own 34 17 e_api_Addr vout_1_1 out_1_1 :: Ow.own 34 17 e_api_Addr vout_2_1 out_2_1 :: Ow.own 34 17 e_api_Addr v_2 (out_3_2 ++ ([(gi r_3 i_1)] : List T_api_Addr)) :: Ow.own 34 17 e_api_Addr vout_4_1 out_4_1 :: Ow.own 34 17 e_api_Addr vout_6_1 out_6_1 :: Ow.box b_5 34 (e_api_Addr (gi r_3 i_1)).toArray :: fr) h_30 := hS
                        replace hK := hK.trans hk
                        replace hL_s_On := hL_s_On.kp hk
                        replace hL_s_Off := hL_s_Off.kp hk
                        replace hL_b := hL_b.kp hk
                        replace hL_1 := hL_1.kp hk
                        replace hL_2 := hL_2.kp hk
                        replace hL_3 := hL_3.kp hk
                        refine HO.val (v := .pointer (some ⟨b_3, 3, none⟩)) (want_none) rfl (q_fieldAddr fa_29_1 rfl rfl) ?_
                        refine HO.sto (want_none) rfl (st_store (c' := #[.bool out_0_1, vout_1_1, vout_2_1, v_2, vout_4_1, .bool out_5_1, vout_6_1, .bool out_7_1]) hS (i := 3) rfl to_22 rfl rfl (shp (hS.own 6 rfl).slice).cells (shp (hS.own 6 rfl).slice).one (Nat.le_of_ble_eq_true rfl) rfl) ?_
                        rintro h_31 ⟨hS, hk⟩
                        replace hS : St F_15 (Ow.own 34 17 e_api_Addr (.slice (some ⟨b_9, 0, none⟩) 1 1) ([(gi r_3 i_1)] : List T_api_Addr) :: Ow.box b_1 24 #[.bool s_Exclude, vs_On, vs_Off] :: Ow.box b_2 29 #[.bool false, .slice none 0 0, .slice none 0 0, .slice none 0 0, .slice none 0 0, .bool false, .slice none 0 0, .bool false] :: Ow.box b_3 29 #[.bool out_0_1, vout_1_1, vout_2_1, v_2, vout_4_1, .bool out_5_1, vout_6_1, .bool out_7_1] :: Ow.own 34 17 e_api_Addr vout_1_1 out_1_1 :: Ow.own 34 17 e_api_Addr vout_2_1 out_2_1 :: Ow.own 34 17 e_api_Addr v_2 (out_3_2 ++ ([(gi r_3 i_1)] : List T_api_Addr)) :: Ow.own 34 17 e_api_Addr vout_4_1 out_4_1 :: Ow.own 34 17 e_api_Addr vout_6_1 out_6_1 :: Ow.box b_5 34 (e_api_Addr (gi r_3 i_1)).toArray :: fr) h_31 := hS
                        replace hK := hK.trans hk
                        replace hL_s_On := hL_s_On.kp hk
                        replace hL_s_Off := hL_s_Off.kp hk
                        replace hL_b := hL_b.kp hk
                        replace hL_1 := hL_1.kp hk
                        replace hL_2 := hL_2.kp hk
                        replace hL_3 := hL_3.kp hk
                        refine HO.nil (thenQ_normal (?_))
                        replace hS : St F_15 (Ow.box b_1 24 #[.bool s_Exclude, vs_On, vs_Off] :: Ow.box b_2 29 #[.bool false, .slice none 0 0, .slice none 0 0, .slice none 0 0, .slice none 0 0, .bool false, .slice none 0 0, .bool false] :: Ow.box b_3 29 #[.bool out_0_1, vout_1_1, vout_2_1, v_2, vout_4_1, .bool out_5_1, vout_6_1, .bool out_7_1] :: Ow.own 34 17 e_api_Addr vout_1_1 out_1_1 :: Ow.own 34 17 e_api_Addr vout_2_1 out_2_1 :: Ow.own 34 17 e_api_Addr v_2 (out_3_2 ++ ([(gi r_3 i_1)] : List T_api_Addr)) :: Ow.own 34 17 e_api_Addr vout_4_1 out_4_1 :: Ow.own 34 17 e_api_Addr vout_6_1 out_6_1 :: Ow.box b_5 34 (e_api_Addr (gi r_3 i_1)).toArray :: fr) h_31 := hS.perm2 [1, 2, 3, 4, 5, 6, 7, 8, 9] 10 rfl rfl
                        exact ⟨F_15, out_3_2 ++ ([(gi r_3 i_1)] : List T_api_Addr), out_4_1, true, v_2, vout_4_1, rfl, rfl, rfl, rfl, rfl, rfl, rfl, rfl, rfl, rfl, rfl, rfl, rfl, rfl, rfl, hK, hS, hL_s_On, hL_s_Off, hL_b, hL_1, hL_2, hL_3, hM⟩
                      · replace hM := hM.2 (of_decide_eq_false c_24)
                        refine HW.region ?_
                        refine HO.val (v := .pointer (some ⟨b_3, 4, none⟩)) (want_none) rfl (q_fieldAddr fa_29_2 rfl rfl) ?_
                        refine HO.val (v := vout_4_1) (want_none) rfl (q_load to_22 rfl (Blk.cell (hS.box 2 rfl) rfl)) ?_
                        refine HO.val (v := .agg (e_api_Addr (gi r_3 i_1)).toArray) (want_none) rfl (q_loadAgg (cs := (e_api_Addr (gi r_3 i_1))) ta_34 rfl rfl (Blk.cells (k := 17) (hS.box 8 rfl) rfl)) ?_
                        refine HO.eff (want_none) rfl (st_lit (enc := e_api_Addr) (cells := #[.bool ((gi r_3 i_1).1), .int .u8 (b8 ((gi r_3 i_1).2) 0), .int .u8 (b8 ((gi r_3 i_1).2) 1), .int .u8 (b8 ((gi r_3 i_1).2) 2), .int .u8 (b8 ((gi r_3 i_1).2) 3), .int .u8 (b8 ((gi r_3 i_1).2) 4), .int .u8 (b8 ((gi r_3 i_1).2) 5), .int .u8 (b8 ((gi r_3 i_1).2) 6), .int .u8 (b8 ((gi r_3 i_1).2) 7), .int .u8 (b8 ((gi r_3 i_1).2) 8), .int .u8 (b8 ((gi r_3 i_1).2) 9), .int .u8 (b8 ((gi r_3 i_1).2) 10), .int .u8 (b8 ((gi r_3 i_1).2) 11), .int .u8 (b8 ((gi r_3 i_1).2) 12), .int .u8 (b8 ((gi r_3 i_1).2) 13), .int .u8 (b8 ((gi r_3 i_1).2) 14), .int .u8 (b8 ((gi r_3 i_1).2) 15)]) #[.bool false, .int .u8 0, .int .u8 0, .int .u8 0, .int .u8 0, .int .u8 0, .int .u8 0, .int .u8 0, .int .u8 0, .int .u8 0, .int .u8 0, .int .u8 0, .int .u8 0, .int .u8 0, .int .u8 0, .int .u8 0, .int .u8 0] ([(gi r_3 i_1)] : List T_api_Addr) hS tl_22 (by decide) (by decide) (by kernel_rfl) (by kernel_rfl) rfl (by intro x hx; rfl) rfl) ?_
                        rintro _ h_32 ⟨b_10, rfl, hS, hk⟩
                        replace hK := hK.trans hk
                        replace hL_s_On := hL_s_On.kp hk
                        replace hL_s_Off := hL_s_Off.kp hk
                        replace hL_b := hL_b.kp hk
                        replace hL_1 := hL_1.kp hk
                        replace hL_2 := hL_2.kp hk
                        replace hL_3 := hL_3.kp hk
                        obtain ⟨ho_4, hM⟩ := hM
                        refine HO.eff (want_none) rfl (st_append te_22 hS (i := 7) rfl (hS.own 0 rfl).slice rfl rfl rfl (by intro a _ u hu; simp [e_api_Addr, encI, encN, encB, encT] at hu; rcases hu with rfl | rfl | rfl | rfl | rfl | rfl | rfl | rfl | rfl | rfl | rfl | rfl | rfl | rfl | rfl | rfl | rfl <;> rfl) ho_4 (by omega)) ?_
                        rintro v_3 h_33 ⟨hS, hk⟩
                        replace hS : St F_15 (Ow.own 34 17 e_api_Addr (.slice (some ⟨b_10, 0, none⟩) 1 1) ([(gi r_3 i_1)] : List T_api_Addr) :: Ow.box b_1 24 #[.bool s_Exclude, vs_On, vs_Off] :: Ow.box b_2 29 #[.bool false, .slice none 0 0, .slice none 0 0, .slice none 0 0, .slice none 0 0, .bool false, .slice none 0 0, .bool false] :: Ow.box b_3 29 #[.bool out_0_1, vout_1_1, vout_2_1, vout_3_2, vout_4_1, .bool out_5_1, vout_6_1, .bool out_7_1] :: Ow.own 34 17 e_api_Addr vout_1_1 out_1_1 :: Ow.own 34 17 e_api_Addr vout_2_1 out_2_1 :: Ow.own 34 17 e_api_Addr vout_3_2 out_3_2 :: Ow.own 34 17 e_api_Addr v_3 (out_4_1 ++ ([(gi r_3 i_1)] : List T_api_Addr)) :: Ow.own 34 17 e_api_Addr vout_6_1 out_6_1 :: Ow.box b_5 34 (e_api_Addr (gi r_3 i_1)).toArray :: fr) h_33 := hS
                        replace hK := hK.trans hk
                        replace hL_s_On := hL_s_On.kp hk
                        replace hL_s_Off := hL_s_Off.kp hk
                        replace hL_b := hL_b.kp hk
                        replace hL_1 := hL_1.kp hk
                        replace hL_2 := hL_2.kp hk
                        replace hL_3 := hL_3.kp hk
                        refine HO.val (v := .pointer (some ⟨b_3, 4, none⟩)) (want_none) rfl (q_fieldAddr fa_29_2 rfl rfl) ?_
                        refine HO.sto (want_none) rfl (st_store (c' := #[.bool out_0_1, vout_1_1, vout_2_1, vout_3_2, v_3, .bool out_5_1, vout_6_1, .bool out_7_1]) hS (i := 3) rfl to_22 rfl rfl (shp (hS.own 7 rfl).slice).cells (shp (hS.own 7 rfl).slice).one (Nat.le_of_ble_eq_true rfl) rfl) ?_
                        rintro h_34 ⟨hS, hk⟩
                        replace hS : St F_15 (Ow.own 34 17 e_api_Addr (.slice (some ⟨b_10, 0, none⟩) 1 1) ([(gi r_3 i_1)] : List T_api_Addr) :: Ow.box b_1 24 #[.bool s_Exclude, vs_On, vs_Off] :: Ow.box b_2 29 #[.bool false, .slice none 0 0, .slice none 0 0, .slice none 0 0, .slice none 0 0, .bool false, .slice none 0 0, .bool false] :: Ow.box b_3 29 #[.bool out_0_1, vout_1_1, vout_2_1, vout_3_2, v_3, .bool out_5_1, vout_6_1, .bool out_7_1] :: Ow.own 34 17 e_api_Addr vout_1_1 out_1_1 :: Ow.own 34 17 e_api_Addr vout_2_1 out_2_1 :: Ow.own 34 17 e_api_Addr vout_3_2 out_3_2 :: Ow.own 34 17 e_api_Addr v_3 (out_4_1 ++ ([(gi r_3 i_1)] : List T_api_Addr)) :: Ow.own 34 17 e_api_Addr vout_6_1 out_6_1 :: Ow.box b_5 34 (e_api_Addr (gi r_3 i_1)).toArray :: fr) h_34 := hS
                        replace hK := hK.trans hk
                        replace hL_s_On := hL_s_On.kp hk
                        replace hL_s_Off := hL_s_Off.kp hk
                        replace hL_b := hL_b.kp hk
                        replace hL_1 := hL_1.kp hk
                        replace hL_2 := hL_2.kp hk
                        replace hL_3 := hL_3.kp hk
                        refine HO.nil (thenQ_normal (?_))
                        replace hS : St F_15 (Ow.box b_1 24 #[.bool s_Exclude, vs_On, vs_Off] :: Ow.box b_2 29 #[.bool false, .slice none 0 0, .slice none 0 0, .slice none 0 0, .slice none 0 0, .bool false, .slice none 0 0, .bool false] :: Ow.box b_3 29 #[.bool out_0_1, vout_1_1, vout_2_1, vout_3_2, v_3, .bool out_5_1, vout_6_1, .bool out_7_1] :: Ow.own 34 17 e_api_Addr vout_1_1 out_1_1 :: Ow.own 34 17 e_api_Addr vout_2_1 out_2_1 :: Ow.own 34 17 e_api_Addr vout_3_2 out_3_2 :: Ow.own 34 17 e_api_Addr v_3 (out_4_1 ++ ([(gi r_3 i_1)] : List T_api_Addr)) :: Ow.own 34 17 e_api_Addr vout_6_1 out_6_1 :: Ow.box b_5 34 (e_api_Addr (gi r_3 i_1)).toArray :: fr) h_34 := hS.perm2 [1, 2, 3, 4, 5, 6, 7, 8, 9] 10 rfl rfl
                        exact ⟨F_15, out_3_2, out_4_1 ++ ([(gi r_3 i_1)] : List T_api_Addr), true, vout_3_2, v_3, rfl, rfl, rfl, rfl, rfl, rfl, rfl, rfl, rfl, rfl, rfl, rfl, rfl, rfl, rfl, hK, hS, hL_s_On, hL_s_Off, hL_b, hL_1, hL_2, hL_3, hM⟩
                    · replace hM := hM.2 c_23
                      refine HW.skip (thenQ_normal (?_))
                      exact ⟨F_15, out_3_2, out_4_1, nowOn_2, vout_3_2, vout_4_1, rfl, rfl, rfl, rfl, rfl, rfl, rfl, rfl, rfl, rfl, rfl, rfl, rfl, rfl, rfl, hK, hS, hL_s_On, hL_s_Off, hL_b, hL_1, hL_2, hL_3, hM⟩
                · rintro f_10 h_35 ⟨F_16, out_3_3, out_4_2, nowOn_3, vout_3_3, vout_4_2, e1, e2, e3, e6, e7, e8, e9, e10, e11, e12, e13, e14, e15, e16, e17, hK, hS, hL_s_On, hL_s_Off, hL_b, hL_1, hL_2, hL_3, hM⟩
                  unfold ref15_Apply_j8 at hM
                  refine HW.fr [(1, .int .i64 kind), (2, vb), (3, .pointer (some ⟨b_1, 0, none⟩)), (6, .pointer (some ⟨b_2, 0, none⟩)), (7, .pointer (some ⟨b_3, 0, none⟩)), (8, .bool b_4), (9, .bool ex_1), (10, vr_3), (11, .int .i64 i_1), (12, .pointer (some ⟨b_5, 0, none⟩)), (13, .bool r_4), (14, .bool r_5), (15, .bool r_6), (16, .bool nowOn_3), (17, .bool nowOff_3)] ⟨e1, e2, e3, e6, e7, e8, e9, e10, e11, e12, e13, e14, e15, e16, e17, trivial⟩ ?_
                  refine HW.seq_mid (fun f h => ∃ (F' : Fz) (ask_1 : Bool), f 1 = .int .i64 kind ∧ f 2 = vb ∧ f 3 = .pointer (some ⟨b_1, 0, none⟩) ∧ f 6 = .pointer (some ⟨b_2, 0, none⟩) ∧ f 7 = .pointer (some ⟨b_3, 0, none⟩) ∧ f 8 = .bool b_4 ∧ f 9 = .bool ex_1 ∧ f 10 = vr_3 ∧ f 11 = .int .i64 i_1 ∧ f 12 = .pointer (some ⟨b_5, 0, none⟩) ∧ f 13 = .bool r_4 ∧ f 14 = .bool r_5 ∧ f 15 = .bool r_6 ∧ f 16 = .bool nowOn_3 ∧ f 17 = .bool nowOff_3 ∧ f 18 = .bool ask_1 ∧ Kp F h0 F' h ∧ St F' (Ow.box b_1 24 #[.bool s_Exclude, vs_On, vs_Off] :: Ow.box b_2 29 #[.bool false, .slice none 0 0, .slice none 0 0, .slice none 0 0, .slice none 0 0, .bool false, .slice none 0 0, .bool false] :: Ow.box b_3 29 #[.bool out_0_1, vout_1_1, vout_2_1, vout_3_3, vout_4_2, .bool out_5_1, vout_6_1, .bool out_7_1] :: Ow.own 34 17 e_api_Addr vout_1_1 out_1_1 :: Ow.own 34 17 e_api_Addr vout_2_1 out_2_1 :: Ow.own 34 17 e_api_Addr vout_3_3 out_3_3 :: Ow.own 34 17 e_api_Addr vout_4_2 out_4_2 :: Ow.own 34 17 e_api_Addr vout_6_1 out_6_1 :: Ow.box b_5 34 (e_api_Addr (gi r_3 i_1)).toArray :: fr) h ∧ (SliceF F' h 17 e_api_Addr vs_On s_On) ∧ (SliceF F' h 17 e_api_Addr vs_Off s_Off) ∧ (SliceF F' h 17 e_api_Addr vb b) ∧ (SliceF F' h 17 e_api_Addr vr_1 r_1) ∧ (SliceF F' h 17 e_api_Addr vr_2 r_2) ∧ (SliceF F' h 17 e_api_Addr vr_3 r_3) ∧ ref15_Apply_j10 s_Exclude kind r_3 out_1_1 out_2_1 out_6_1 i_1 K_1 r_4 r_5 r_6 nowOff_3 out_3_3 out_4_2 nowOn_3 ask_1) ?_ ?_
                  · refine HW.region ?_
                    refine HO.val (v := .int .i64 kind) (want_none) rfl (q_move rfl) ?_
                    refine HO.val (v := .bool (decide (kind = 3))) (want_none) rfl (q_eql rfl rfl) ?_
                    refine HO.val (v := .bool (decide (kind = 3))) (want_none) rfl (q_move rfl) ?_
                    rcases Bool.eq_false_or_eq_true (decide (kind = 3)) with c_25 | c_25
                    · replace hM := hM.1 (of_decide_eq_true c_25)
                      refine HO.val (v := .bool r_4) (want_by rfl rfl c_25) rfl (q_move rfl) ?_
                      refine HO.val (v := .bool r_4) (want_none) rfl (q_pickK true rfl c_25 rfl) ?_
                      refine HO.val (v := .bool r_4) (want_none) rfl (q_move rfl) ?_
                      rcases Bool.eq_false_or_eq_true r_4 with c_26 | c_26
                      · replace hM := hM.1 c_26
                        refine HO.val (v := .bool r_6) (want_by rfl rfl c_26) rfl (q_move rfl) ?_
                        refine HO.val (v := .bool (!r_6)) (want_by rfl rfl c_26) rfl (q_not rfl) ?_
                        refine HO.val (v := .bool (!r_6)) (want_none) rfl (q_pickK true rfl c_26 rfl) ?_
                        refine HO.val (v := .bool (!r_6)) (want_none) rfl (q_assign rfl) ?_
                        refine HO.nil (thenQ_normal (?_))
                        exact ⟨F_16, !r_6, rfl, rfl, rfl, rfl, rfl, rfl, rfl, rfl, rfl, rfl, rfl, rfl, rfl, rfl, rfl, rfl, hK, hS, hL_s_On, hL_s_Off, hL_b, hL_1, hL_2, hL_3, hM⟩
                      · replace hM := hM.2 c_26
                        refine HO.past (past_by rfl rfl c_26) rfl ?_
                        refine HO.past (past_by rfl rfl c_26) rfl ?_
                        refine HO.val (v := .bool false) (want_none) rfl (q_pickK false rfl c_26 rfl) ?_
                        refine HO.val (v := .bool false) (want_none) rfl (q_assign rfl) ?_
                        refine HO.nil (thenQ_normal (?_))
                        exact ⟨F_16, false, rfl, rfl, rfl, rfl, rfl, rfl, rfl, rfl, rfl, rfl, rfl, rfl, rfl, rfl, rfl, rfl, hK, hS, hL_s_On, hL_s_Off, hL_b, hL_1, hL_2, hL_3, hM⟩
                    · replace hM := hM.2 (of_decide_eq_false c_25)
                      refine HO.past (past_by rfl rfl c_25) rfl ?_
                      refine HO.val (v := .bool false) (want_none) rfl (q_pickK false rfl c_25 rfl) ?_
                      refine HO.val (v := .bool false) (want_none) rfl (q_move rfl) ?_
                      refine HO.past (past_some rfl rfl) rfl ?_
                      refine HO.past (past_some rfl rfl) rfl ?_
                      refine HO.val (v := .bool false) (want_none) rfl (q_pick rfl rfl) ?_
                      refine HO.val (v := .bool false) (want_none) rfl (q_assign rfl) ?_
                      refine HO.nil (thenQ_normal (?_))
                      exact ⟨F_16, false, rfl, rfl, rfl, rfl, rfl, rfl, rfl, rfl, rfl, rfl, rfl, rfl, rfl, rfl, rfl, rfl, hK, hS, hL_s_On, hL_s_Off, hL_b, hL_1, hL_2, hL_3, hM⟩
                  · rintro f_11 h_36 ⟨F_17, ask_1, e1, e2, e3, e6, e7, e8, e9, e10, e11, e12, e13, e14, e15, e16, e17, e18, hK, hS, hL_s_On, hL_s_Off, hL_b, hL_1, hL_2, hL_3, hM⟩
                    unfold ref15_Apply_j10 at hM
                    refine HW.fr [(1, .int .i64 kind), (2, vb), (3, .pointer (some ⟨b_1, 0, none⟩)), (6, .pointer (some ⟨b_2, 0, none⟩)), (7, .pointer (some ⟨b_3, 0, none⟩)), (8, .bool b_4), (9, .bool ex_1), (10, vr_3), (11, .int .i64 i_1), (12, .pointer (some ⟨b_5, 0, none⟩)), (13, .bool r_4), (14, .bool r_5), (15, .bool r_6), (16, .bool nowOn_3), (17, .bool nowOff_3), (18, .bool ask_1)] ⟨e1, e2, e3, e6, e7, e8, e9, e10, e11, e12, e13, e14, e15, e16, e17, e18, trivial⟩ ?_
                    refine HW.seq_mid (fun f h => ∃ (F' : Fz) (ask_2 : Bool), f 1 = .int .i64 kind ∧ f 2 = vb ∧ f 3 = .pointer (some ⟨b_1, 0, none⟩) ∧ f 6 = .pointer (some ⟨b_2, 0, none⟩) ∧ f 7 = .pointer (some ⟨b_3, 0, none⟩) ∧ f 8 = .bool b_4 ∧ f 9 = .bool ex_1 ∧ f 10 = vr_3 ∧ f 11 = .int .i64 i_1 ∧ f 12 = .pointer (some ⟨b_5, 0, none⟩) ∧ f 16 = .bool nowOn_3 ∧ f 17 = .bool nowOff_3 ∧ f 18 = .bool ask_2 ∧ Kp F h0 F' h ∧ St F' (Ow.box b_1 24 #[.bool s_Exclude, vs_On, vs_Off] :: Ow.box b_2 29 #[.bool false, .slice none 0 0, .slice none 0 0, .slice none 0 0, .slice none 0 0, .bool false, .slice none 0 0, .bool false] :: Ow.box b_3 29 #[.bool out_0_1, vout_1_1, vout_2_1, vout_3_3, vout_4_2, .bool out_5_1, vout_6_1, .bool out_7_1] :: Ow.own 34 17 e_api_Addr vout_1_1 out_1_1 :: Ow.own 34 17 e_api_Addr vout_2_1 out_2_1 :: Ow.own 34 17 e_api_Addr vout_3_3 out_3_3 :: Ow.own 34 17 e_api_Addr vout_4_2 out_4_2 :: Ow.own 34 17 e_api_Addr vout_6_1 out_6_1 :: Ow.box b_5 34 (e_api_Addr (gi r_3 i_1)).toArray :: fr) h ∧ (SliceF F' h 17 e_api_Addr vs_On s_On) ∧ (SliceF F' h 17 e_api_Addr vs_Off s_Off) ∧ (SliceF F' h 17 e_api_Addr vb b) ∧ (SliceF F' h 17 e_api_Addr vr_1 r_1) ∧ (SliceF F' h 17 e_api_Addr vr_2 r_2) ∧ (SliceF F' h 17 e_api_Addr vr_3 r_3) ∧ ref15_Apply_j11 r_3 out_1_1 out_2_1 out_6_1 i_1 K_1 nowOff_3 out_3_3 out_4_2 nowOn_3 ask_2) ?_ ?_
                    · refine HW.seq_mid (fun f h => ∃ (F' : Fz) (b_11 : Bool), f 1 = .int .i64 kind ∧ f 2 = vb ∧ f 3 = .pointer (some ⟨b_1, 0, none⟩) ∧ f 6 = .pointer (some ⟨b_2, 0, none⟩) ∧ f 7 = .pointer (some ⟨b_3, 0, none⟩) ∧ f 8 = .bool b_4 ∧ f 9 = .bool ex_1 ∧ f 10 = vr_3 ∧ f 11 = .int .i64 i_1 ∧ f 12 = .pointer (some ⟨b_5, 0, none⟩) ∧ f 13 = .bool r_4 ∧ f 14 = .bool r_5 ∧ f 15 = .bool r_6 ∧ f 16 = .bool nowOn_3 ∧ f 17 = .bool nowOff_3 ∧ f 18 = .bool ask_1 ∧ f 161 = .bool b_11 ∧ Kp F h0 F' h ∧ St F' (Ow.box b_1 24 #[.bool s_Exclude, vs_On, vs_Off] :: Ow.box b_2 29 #[.bool false, .slice none 0 0, .slice none 0 0, .slice none 0 0, .slice none 0 0, .bool false, .slice none 0 0, .bool false] :: Ow.box b_3 29 #[.bool out_0_1, vout_1_1, vout_2_1, vout_3_3, vout_4_2, .bool out_5_1, vout_6_1, .bool out_7_1] :: Ow.own 34 17 e_api_Addr vout_1_1 out_1_1 :: Ow.own 34 17 e_api_Addr vout_2_1 out_2_1 :: Ow.own 34 17 e_api_Addr vout_3_3 out_3_3 :: Ow.own 34 17 e_api_Addr vout_4_2 out_4_2 :: Ow.own 34 17 e_api_Addr vout_6_1 out_6_1 :: Ow.box b_5 34 (e_api_Addr (gi r_3 i_1)).toArray :: fr) h ∧ (SliceF F' h 17 e_api_Addr vs_On s_On) ∧ (SliceF F' h 17 e_api_Addr vs_Off s_Off) ∧ (SliceF F' h 17 e_api_Addr vb b) ∧ (SliceF F' h 17 e_api_Addr vr_1 r_1) ∧ (SliceF F' h 17 e_api_Addr vr_2 r_2) ∧ (SliceF F' h 17 e_api_Addr vr_3 r_3) ∧ ref15_Apply_j12 s_Exclude r_3 out_1_1 out_2_1 out_6_1 i_1 K_1 r_4 r_5 r_6 nowOff_3 out_3_3 out_4_2 nowOn_3 ask_1 b_11) ?_ ?_
                      · refine HW.region ?_
                        refine HO.val (v := .int .i64 kind) (want_none) rfl (q_move rfl) ?_
                        refine HO.val (v := .bool (decide (kind = 6))) (want_none) rfl (q_eql rfl rfl) ?_
                        refine HO.val (v := .bool (decide (kind = 6))) (want_none) rfl (q_move rfl) ?_
                        rcases Bool.eq_false_or_eq_true (decide (kind = 6)) with c_27 | c_27
                        · replace hM := hM.1 (of_decide_eq_true c_27)
                          refine HO.past (past_by rfl rfl c_27) rfl ?_
                          refine HO.past (past_by rfl rfl c_27) rfl ?_
                          refine HO.val (v := .bool true) (want_none) rfl (q_pickK true rfl c_27 rfl) ?_
                          refine HO.nil (thenQ_normal (?_))
                          exact ⟨F_17, true, rfl, rfl, rfl, rfl, rfl, rfl, rfl, rfl, rfl, rfl, rfl, rfl, rfl, rfl, rfl, rfl, rfl, hK, hS, hL_s_On, hL_s_Off, hL_b, hL_1, hL_2, hL_3, hM⟩
                        · replace hM := hM.2 (of_decide_eq_false c_27)
                          refine HO.val (v := .int .i64 kind) (want_by rfl rfl c_27) rfl (q_move rfl) ?_
                          refine HO.val (v := .bool (decide (kind = 4))) (want_by rfl rfl c_27) rfl (q_eql rfl rfl) ?_
                          refine HO.val (v := .bool (decide (kind = 4))) (want_none) rfl (q_pickK false rfl c_27 rfl) ?_
                          refine HO.nil (thenQ_normal (?_))
                          exact ⟨F_17, decide (kind = 4), rfl, rfl, rfl, rfl, rfl, rfl, rfl, rfl, rfl, rfl, rfl, rfl, rfl, rfl, rfl, rfl, rfl, hK, hS, hL_s_On, hL_s_Off, hL_b, hL_1, hL_2, hL_3, hM⟩
                      · rintro f_12 h_37 ⟨F_18, b_11, e1, e2, e3, e6, e7, e8, e9, e10, e11, e12, e13, e14, e15, e16, e17, e18, e161, hK, hS, hL_s_On, hL_s_Off, hL_b, hL_1, hL_2, hL_3, hM⟩
                        unfold ref15_Apply_j12 at hM
                        refine HW.fr [(1, .int .i64 kind), (2, vb), (3, .pointer (some ⟨b_1, 0, none⟩)), (6, .pointer (some ⟨b_2, 0, none⟩)), (7, .pointer (some ⟨b_3, 0, none⟩)), (8, .bool b_4), (9, .bool ex_1), (10, vr_3), (11, .int .i64 i_1), (12, .pointer (some ⟨b_5, 0, none⟩)), (13, .bool r_4), (14, .bool r_5), (15, .bool r_6), (16, .bool nowOn_3), (17, .bool nowOff_3), (18, .bool ask_1), (161, .bool b_11)] ⟨e1, e2, e3, e6, e7, e8, e9, e10, e11, e12, e13, e14, e15, e16, e17, e18, e161, trivial⟩ ?_
                        refine HW.cond b_11 rfl (fun c_28 => ?_) (fun c_28 => ?_)
                        · replace hM := hM.1 c_28
                          refine HW.region ?_
                          refine HO.val (v := .bool r_6) (want_none) rfl (q_move rfl) ?_
                          refine HO.val (v := .bool r_6) (want_none) rfl (q_move rfl) ?_
                          rcases Bool.eq_false_or_eq_true r_6 with c_29 | c_29
                          · replace hM := hM.1 c_29
                            refine HO.val (v := .bool r_4) (want_by rfl rfl c_29) rfl (q_move rfl) ?_
                            refine HO.val (v := .bool r_4) (want_by rfl rfl c_29) rfl (q_move rfl) ?_
                            rcases Bool.eq_false_or_eq_true r_4 with c_30 | c_30
                            · replace hM := hM.1 c_30
                              refine HO.past (past_by rfl rfl c_30) rfl ?_
                              refine HO.past (past_by rfl rfl c_30) rfl ?_
                              refine HO.past (past_by rfl rfl c_30) rfl ?_
                              refine HO.past (past_undef rfl rfl) rfl ?_
                              refine HO.past (past_undef rfl rfl) rfl ?_
                              refine HO.past (past_by rfl rfl c_30) rfl ?_
                              refine HO.val (v := .bool true) (want_by rfl rfl c_29) rfl (q_pickK true rfl c_30 rfl) ?_
                              refine HO.val (v := .bool true) (want_none) rfl (q_pickK true rfl c_29 rfl) ?_
                              refine HO.val (v := .bool true) (want_none) rfl (q_assign rfl) ?_
                              refine HO.nil (thenQ_normal (?_))
                              exact ⟨F_18, true, rfl, rfl, rfl, rfl, rfl, rfl, rfl, rfl, rfl, rfl, rfl, rfl, rfl, hK, hS, hL_s_On, hL_s_Off, hL_b, hL_1, hL_2, hL_3, hM⟩
                            · replace hM := hM.2 c_30
                              refine HO.val (v := .pointer (some ⟨b_1, 0, none⟩)) (want_by rfl rfl c_30) rfl (q_fieldAddr fa_24_0 rfl rfl) ?_
                              refine HO.val (v := .bool s_Exclude) (want_by rfl rfl c_30) rfl (q_load to_4 rfl (Blk.cell (hS.box 0 rfl) rfl)) ?_
                              refine HO.val (v := .bool s_Exclude) (want_by rfl rfl c_30) rfl (q_move rfl) ?_
                              rcases Bool.eq_false_or_eq_true s_Exclude with c_31 | c_31
                              · replace hM := hM.1 c_31
                                refine HO.val (v := .bool r_5) (want_by rfl rfl c_31) rfl (q_move rfl) ?_
                                refine HO.val (v := .bool (!r_5)) (want_by rfl rfl c_31) rfl (q_not rfl) ?_
                                refine HO.val (v := .bool (!r_5)) (want_by rfl rfl c_30) rfl (q_pickK true rfl c_31 rfl) ?_
                                refine HO.val (v := .bool (!r_5)) (want_by rfl rfl c_29) rfl (q_pickK false rfl c_30 rfl) ?_
                                refine HO.val (v := .bool (!r_5)) (want_none) rfl (q_pickK true rfl c_29 rfl) ?_
                                refine HO.val (v := .bool (!r_5)) (want_none) rfl (q_assign rfl) ?_
                                refine HO.nil (thenQ_normal (?_))
                                exact ⟨F_18, !r_5, rfl, rfl, rfl, rfl, rfl, rfl, rfl, rfl, rfl, rfl, rfl, rfl, rfl, hK, hS, hL_s_On, hL_s_Off, hL_b, hL_1, hL_2, hL_3, hM⟩
                              · replace hM := hM.2 c_31
                                refine HO.past (past_by rfl rfl c_31) rfl ?_
                                refine HO.past (past_by rfl rfl c_31) rfl ?_
                                refine HO.val (v := .bool false) (want_by rfl rfl c_30) rfl (q_pickK false rfl c_31 rfl) ?_
                                refine HO.val (v := .bool false) (want_by rfl rfl c_29) rfl (q_pickK false rfl c_30 rfl) ?_
                                refine HO.val (v := .bool false) (want_none) rfl (q_pickK true rfl c_29 rfl) ?_
                                refine HO.val (v := .bool false) (want_none) rfl (q_assign rfl) ?_
                                refine HO.nil (thenQ_normal (?_))
                                exact ⟨F_18, false, rfl, rfl, rfl, rfl, rfl, rfl, rfl, rfl, rfl, rfl, rfl, rfl, rfl, hK, hS, hL_s_On, hL_s_Off, hL_b, hL_1, hL_2, hL_3, hM⟩
                          · replace hM := hM.2 c_29
                            refine HO.past (past_by rfl rfl c_29) rfl ?_
                            refine HO.past (past_by rfl rfl c_29) rfl ?_
                            refine HO.past (past_undef rfl rfl) rfl ?_
                            refine HO.past (past_undef rfl rfl) rfl ?_
                            refine HO.past (past_undef rfl rfl) rfl ?_
                            refine HO.past (past_undef rfl rfl) rfl ?_
                            refine HO.past (past_undef rfl rfl) rfl ?_
                            refine HO.past (past_undef rfl rfl) rfl ?_
                            refine HO.past (past_by rfl rfl c_29) rfl ?_
                            refine HO.val (v := .bool false) (want_none) rfl (q_pickK false rfl c_29 rfl) ?_
                            refine HO.val (v := .bool false) (want_none) rfl (q_assign rfl) ?_
                            refine HO.nil (thenQ_normal (?_))
                            exact ⟨F_18, false, rfl, rfl, rfl, rfl, rfl, rfl, rfl, rfl, rfl, rfl, rfl, rfl, rfl, hK, hS, hL_s_On, hL_s_Off, hL_b, hL_1, hL_2, hL_3, hM⟩
                        · replace hM := hM.2 c_28
                          refine HW.skip (thenQ_normal (?_))
                          exact ⟨F_18, ask_1, rfl, rfl, rfl, rfl, rfl, rfl, rfl, rfl, rfl, rfl, rfl, rfl, rfl, hK, hS, hL_s_On, hL_s_Off, hL_b, hL_1, hL_2, hL_3, hM⟩
                    · rintro f_13 h_38 ⟨F_19, ask_2, e1, e2, e3, e6, e7, e8, e9, e10, e11, e12, e16, e17, e18, hK, hS, hL_s_On, hL_s_Off, hL_b, hL_1, hL_2, hL_3, hM⟩
                      unfold ref15_Apply_j11 at hM
                      refine HW.fr [(1, .int .i64 kind), (2, vb), (3, .pointer (some ⟨b_1, 0, none⟩)), (6, .pointer (some ⟨b_2, 0, none⟩)), (7, .pointer (some ⟨b_3, 0, none⟩)), (8, .bool b_4), (9, .bool ex_1), (10, vr_3), (11, .int .i64 i_1), (12, .pointer (some ⟨b_5, 0, none⟩)), (16, .bool nowOn_3), (17, .bool nowOff_3), (18, .bool ask_2)] ⟨e1, e2, e3, e6, e7, e8, e9, e10, e11, e12, e16, e17, e18, trivial⟩ ?_
                      refine HW.seq_mid (fun f h => ∃ (F' : Fz) (out_6_2 : List T_api_Addr) (vout_6_2 : Value), f 1 = .int .i64 kind ∧ f 2 = vb ∧ f 3 = .pointer (some ⟨b_1, 0, none⟩) ∧ f 6 = .pointer (some ⟨b_2, 0, none⟩) ∧ f 7 = .pointer (some ⟨b_3, 0, none⟩) ∧ f 8 = .bool b_4 ∧ f 9 = .bool ex_1 ∧ f 10 = vr_3 ∧ f 11 = .int .i64 i_1 ∧ f 12 = .pointer (some ⟨b_5, 0, none⟩) ∧ f 16 = .bool nowOn_3 ∧ f 17 = .bool nowOff_3 ∧ Kp F h0 F' h ∧ St F' (Ow.box b_1 24 #[.bool s_Exclude, vs_On, vs_Off] :: Ow.box b_2 29 #[.bool false, .slice none 0 0, .slice none 0 0, .slice none 0 0, .slice none 0 0, .bool false, .slice none 0 0, .bool false] :: Ow.box b_3 29 #[.bool out_0_1, vout_1_1, vout_2_1, vout_3_3, vout_4_2, .bool out_5_1, vout_6_2, .bool out_7_1] :: Ow.own 34 17 e_api_Addr vout_1_1 out_1_1 :: Ow.own 34 17 e_api_Addr vout_2_1 out_2_1 :: Ow.own 34 17 e_api_Addr vout_3_3 out_3_3 :: Ow.own 34 17 e_api_Addr vout_4_2 out_4_2 :: Ow.own 34 17 e_api_Addr vout_6_2 out_6_2 :: Ow.box b_5 34 (e_api_Addr (gi r_3 i_1)).toArray :: fr) h ∧ (SliceF F' h 17 e_api_Addr vs_On s_On) ∧ (SliceF F' h 17 e_api_Addr vs_Off s_Off) ∧ (SliceF F' h 17 e_api_Addr vb b) ∧ (SliceF F' h 17 e_api_Addr vr_1 r_1) ∧ (SliceF F' h 17 e_api_Addr vr_2 r_2) ∧ (SliceF F' h 17 e_api_Addr vr_3 r_3) ∧ ref15_Apply_j13 r_3 out_1_1 out_2_1 i_1 K_1 nowOff_3 out_3_3 out_4_2 nowOn_3 out_6_2) ?_ ?_
                      · refine HW.seq ?_
                        refine HW.region ?_
                        refine HO.val (v := .bool ask_2) (want_none) rfl (q_move rfl) ?_
                        refine HO.nil (thenQ_normal (?_))
                        refine HW.cond ask_2 rfl (fun c_32 => ?_) (fun c_32 => ?_)
                        · replace hM := hM.1 c_32
                          refine HW.region ?_
                          refine HO.val (v := .pointer (some ⟨b_3, 6, none⟩)) (want_none) rfl (q_fieldAddr fa_29_4 rfl rfl) ?_
                          refine HO.val (v := vout_6_1) (want_none) rfl (q_load to_22 rfl (Blk.cell (hS.box 2 rfl) rfl)) ?_
                          refine HO.val (v := .agg (e_api_Addr (gi r_3 i_1)).toArray) (want_none) rfl (q_loadAgg (cs := (e_api_Addr (gi r_3 i_1))) ta_34 rfl rfl (Blk.cells (k := 17) (hS.box 8 rfl) rfl)) ?_
                          refine HO.eff (want_none) rfl (st_lit (enc := e_api_Addr) (cells := #[.bool ((gi r_3 i_1).1), .int .u8 (b8 ((gi r_3 i_1).2) 0), .int .u8 (b8 ((gi r_3 i_1).2) 1), .int .u8 (b8 ((gi r_3 i_1).2) 2), .int .u8 (b8 ((gi r_3 i_1).2) 3), .int .u8 (b8 ((gi r_3 i_1).2) 4), .int .u8 (b8 ((gi r_3 i_1).2) 5), .int .u8 (b8 ((gi r_3 i_1).2) 6), .int .u8 (b8 ((gi r_3 i_1).2) 7), .int .u8 (b8 ((gi r_3 i_1).2) 8), .int .u8 (b8 ((gi r_3 i_1).2) 9), .int .u8 (b8 ((gi r_3 i_1).2) 10), .int .u8 (b8 ((gi r_3 i_1).2) 11), .int .u8 (b8 ((gi r_3 i_1).2) 12), .int .u8 (b8 ((gi r_3 i_1).2) 13), .int .u8 (b8 ((gi r_3 i_1).2) 14), .int .u8 (b8 ((gi r_3 i_1).2) 15)]) #[.bool false, .int .u8 0, .int .u8 0, .int .u8 0, .int .u8 0, .int .u8 0, .int .u8 0, .int .u8 0, .int .u8 0, .int .u8 0, .int .u8 0, .int .u8 0, .int .u8 0, .int .u8 0, .int .u8 0, .int .u8 0, .int .u8 0] ([(gi r_3 i_1)] : List T_api_Addr) hS tl_22 (by decide) (by decide) (by kernel_rfl) (by kernel_rfl) rfl (by intro x hx; rfl) rfl) ?_
                          rintro _ h_39 ⟨b_12, rfl, hS, hk⟩
                          replace hK := hK.trans hk
                          replace hL_s_On := hL_s_On.kp hk
                          replace hL_s_Off := hL_s_Off.kp hk
                          replace hL_b := hL_b.kp hk
                          replace hL_1 := hL_1.kp hk
                          replace hL_2 := hL_2.kp hk
                          replace hL_3 := hL_3.kp hk
                          obtain ⟨ho_5, hM⟩ := hM
                          refine HO.eff (want_none) rfl (st_append te_22 hS (i := 8) rfl (hS.own 0 rfl).slice rfl rfl rfl (by intro a _ u hu; simp [e_api_Addr, encI, encN, encB, encT] at hu; rcases hu with rfl | rfl | rfl | rfl | rfl | rfl | rfl | rfl | rfl | rfl | rfl | rfl | rfl | rfl | rfl | rfl | rfl <;> rfl) ho_5 (by omega)) ?_
                          rintro v_4 h_40 ⟨hS, hk⟩
                          replace hS : St F_19 (Ow.own 34 17 e_api_Addr (.slice (some ⟨b_12, 0, none⟩) 1 1) ([(gi r_3 i_1)] : List T_api_Addr) :: Ow.box b_1 24 #[.bool s_Exclude, vs_On, vs_Off] :: Ow.box b_2 29 #[.bool false, .slice none 0 0, .slice none 0 0, .slice none 0 0, .slice none 0 0, .bool false, .slice none 0 0, .bool false] :: Ow.box b_3 29 #[.bool out_0_1, vout_1_1, vout_2_1, vout_3_3, vout_4_2, .bool out_5_1, vout_6_1, .bool out_7_1] :: Ow.own 34 17 e_api_Addr vout_1_1 out_1_1 :: Ow.own 34 17 e_api_Addr vout_2_1 out_2_1 :: Ow.own 34 17 e_api_Addr vout_3_3 out_3_3 :: Ow.own 34 17 e_api_Addr vout_4_2 out_4_2 :: Ow.own 34 17 e_api_Addr v_4 (out_6_1 ++ ([(gi r_3 i_1)] : List T_api_Addr)) :: Ow.box b_5 34 (e_api_Addr (gi r_3 i_1)).toArray :: fr) h_40 := hS
                          replace hK := hK.trans hk
                          replace hL_s_On := hL_s_On.kp hk
                          replace hL_s_Off := hL_s_Off.kp hk
                          replace hL_b := hL_b.kp hk
                          replace hL_1 := hL_1.kp hk
                          replace hL_2 := hL_2.kp hk
                          replace hL_3 := hL_3.kp hk
                          refine HO.val (v := .pointer (some ⟨b_3, 6, none⟩)) (want_none) rfl (q_fieldAddr fa_29_4 rfl rfl) ?_
                          refine HO.sto (want_none) rfl (st_store (c' := #[.bool out_0_1, vout_1_1, vout_2_1, vout_3_3, vout_4_2, .bool out_5_1, v_4, .bool out_7_1]) hS (i := 3) rfl to_22 rfl rfl (shp (hS.own 8 rfl).slice).cells (shp (hS.own 8 rfl).slice).one (Nat.le_of_ble_eq_true rfl) rfl) ?_
                          rintro h_41 ⟨hS, hk⟩
                          replace hS : St F_19 (Ow.own 34 17 e_api_Addr (.slice (some ⟨b_12, 0, none⟩) 1 1) ([(gi r_3 i_1)] : List T_api_Addr) :: Ow.box b_1 24 #[.bool s_Exclude, vs_On, vs_Off] :: Ow.box b_2 29 #[.bool false, .slice none 0 0, .slice none 0 0, .slice none 0 0, .slice none 0 0, .bool false, .slice none 0 0, .bool false] :: Ow.box b_3 29 #[.bool out_0_1, vout_1_1, vout_2_1, vout_3_3, vout_4_2, .bool out_5_1, v_4, .bool out_7_1] :: Ow.own 34 17 e_api_Addr vout_1_1 out_1_1 :: Ow.own 34 17 e_api_Addr vout_2_1 out_2_1 :: Ow.own 34 17 e_api_Addr vout_3_3 out_3_3 :: Ow.own 34 17 e_api_Addr vout_4_2 out_4_2 :: Ow.own 34 17 e_api_Addr v_4 (out_6_1 ++ ([(gi r_3 i_1)] : List T_api_Addr)) :: Ow.box b_5 34 (e_api_Addr (gi r_3 i_1)).toArray :: fr) h_41 := hS
                          replace hK := hK.trans hk
                          replace hL_s_On := hL_s_On.kp hk
                          replace hL_s_Off := hL_s_Off.kp hk
                          replace hL_b := hL_b.kp hk
                          replace hL_1 := hL_1.kp hk
                          replace hL_2 := hL_2.kp hk
                          replace hL_3 := hL_3.kp hk
                          refine HO.nil (thenQ_normal (?_))
                          replace hS : St F_19 (Ow.box b_1 24 #[.bool s_Exclude, vs_On, vs_Off] :: Ow.box b_2 29 #[.bool false, .slice none 0 0, .slice none 0 0, .slice none 0 0, .slice none 0 0, .bool false, .slice none 0 0, .bool false] :: Ow.box b_3 29 #[.bool out_0_1, vout_1_1, vout_2_1, vout_3_3, vout_4_2, .bool out_5_1, v_4, .bool out_7_1] :: Ow.own 34 17 e_api_Addr vout_1_1 out_1_1 :: Ow.own 34 17 e_api_Addr vout_2_1 out_2_1 :: Ow.own 34 17 e_api_Addr vout_3_3 out_3_3 :: Ow.own 34 17 e_api_Addr vout_4_2 out_4_2 :: Ow.own 34 17 e_api_Addr v_4 (out_6_1 ++ ([(gi r_3 i_1)] : List T_api_Addr)) :: Ow.box b_5 34 (e_api_Addr (gi r_3 i_1)).toArray :: fr) h_41 := hS.perm2 [1, 2, 3, 4, 5, 6, 7, 8, 9] 10 rfl rfl
                          exact ⟨F_19, out_6_1 ++ ([(gi r_3 i_1)] : List T_api_Addr), v_4, rfl, rfl, rfl, rfl, rfl, rfl, rfl, rfl, rfl, rfl, rfl, rfl, hK, hS, hL_s_On, hL_s_Off, hL_b, hL_1, hL_2, hL_3, hM⟩
                        · replace hM := hM.2 c_32
                          refine HW.skip (thenQ_normal (?_))
                          exact ⟨F_19, out_6_1, vout_6_1, rfl, rfl, rfl, rfl, rfl, rfl, rfl, rfl, rfl, rfl, rfl, rfl, hK, hS, hL_s_On, hL_s_Off, hL_b, hL_1, hL_2, hL_3, hM⟩
                      · rintro f_14 h_42 ⟨F_20, out_6_2, vout_6_2, e1, e2, e3, e6, e7, e8, e9, e10, e11, e12, e16, e17, hK, hS, hL_s_On, hL_s_Off, hL_b, hL_1, hL_2, hL_3, hM⟩
                        unfold ref15_Apply_j13 at hM
                        refine HW.fr [(1, .int .i64 kind), (2, vb), (3, .pointer (some ⟨b_1, 0, none⟩)), (6, .pointer (some ⟨b_2, 0, none⟩)), (7, .pointer (some ⟨b_3, 0, none⟩)), (8, .bool b_4), (9, .bool ex_1), (10, vr_3), (11, .int .i64 i_1), (12, .pointer (some ⟨b_5, 0, none⟩)), (16, .bool nowOn_3), (17, .bool nowOff_3)] ⟨e1, e2, e3, e6, e7, e8, e9, e10, e11, e12, e16, e17, trivial⟩ ?_
                        refine HW.seq_mid (fun f h => ∃ (F' : Fz) (out_1_2 : List T_api_Addr) (vout_1_2 : Value), f 1 = .int .i64 kind ∧ f 2 = vb ∧ f 3 = .pointer (some ⟨b_1, 0, none⟩) ∧ f 6 = .pointer (some ⟨b_2, 0, none⟩) ∧ f 7 = .pointer (some ⟨b_3, 0, none⟩) ∧ f 8 = .bool b_4 ∧ f 9 = .bool ex_1 ∧ f 10 = vr_3 ∧ f 11 = .int .i64 i_1 ∧ f 12 = .pointer (some ⟨b_5, 0, none⟩) ∧ f 17 = .bool nowOff_3 ∧ Kp F h0 F' h ∧ St F' (Ow.box b_1 24 #[.bool s_Exclude, vs_On, vs_Off] :: Ow.box b_2 29 #[.bool false, .slice none 0 0, .slice none 0 0, .slice none 0 0, .slice none 0 0, .bool false, .slice none 0 0, .bool false] :: Ow.box b_3 29 #[.bool out_0_1, vout_1_2, vout_2_1, vout_3_3, vout_4_2, .bool out_5_1, vout_6_2, .bool out_7_1] :: Ow.own 34 17 e_api_Addr vout_1_2 out_1_2 :: Ow.own 34 17 e_api_Addr vout_2_1 out_2_1 :: Ow.own 34 17 e_api_Addr vout_3_3 out_3_3 :: Ow.own 34 17 e_api_Addr vout_4_2 out_4_2 :: Ow.own 34 17 e_api_Addr vout_6_2 out_6_2 :: Ow.box b_5 34 (e_api_Addr (gi r_3 i_1)).toArray :: fr) h ∧ (SliceF F' h 17 e_api_Addr vs_On s_On) ∧ (SliceF F' h 17 e_api_Addr vs_Off s_Off) ∧ (SliceF F' h 17 e_api_Addr vb b) ∧ (SliceF F' h 17 e_api_Addr vr_1 r_1) ∧ (SliceF F' h 17 e_api_Addr vr_2 r_2) ∧ (SliceF F' h 17 e_api_Addr vr_3 r_3) ∧ ref15_Apply_j14 r_3 out_2_1 i_1 K_1 nowOff_3 out_3_3 out_4_2 out_6_2 out_1_2) ?_ ?_
                        · refine HW.seq ?_
                          refine HW.region ?_
                          refine HO.val (v := .bool nowOn_3) (want_none) rfl (q_move rfl) ?_
                          refine HO.nil (thenQ_normal (?_))
                          refine HW.cond nowOn_3 rfl (fun c_33 => ?_) (fun c_33 => ?_)
                          · replace hM := hM.1 c_33
                            refine HW.region ?_
                            refine HO.val (v := .pointer (some ⟨b_3, 0, none⟩)) (want_none) rfl (q_fieldAddr fa_29_0 rfl rfl) ?_
                            refine HO.val (v := .pointer (some ⟨b_3, 1, none⟩)) (want_none) rfl (q_fieldAddr fa_24_1 rfl rfl) ?_
                            refine HO.val (v := vout_1_1) (want_none) rfl (q_load to_22 rfl (Blk.cell (hS.box 2 rfl) rfl)) ?_
                            refine HO.val (v := .agg (e_api_Addr (gi r_3 i_1)).toArray) (want_none) rfl (q_loadAgg (cs := (e_api_Addr (gi r_3 i_1))) ta_34 rfl rfl (Blk.cells (k := 17) (hS.box 8 rfl) rfl)) ?_
                            refine HO.eff (want_none) rfl (st_lit (enc := e_api_Addr) (cells := #[.bool ((gi r_3 i_1).1), .int .u8 (b8 ((gi r_3 i_1).2) 0), .int .u8 (b8 ((gi r_3 i_1).2) 1), .int .u8 (b8 ((gi r_3 i_1).2) 2), .int .u8 (b8 ((gi r_3 i_1).2) 3), .int .u8 (b8 ((gi r_3 i_1).2) 4), .int .u8 (b8 ((gi r_3 i_1).2) 5), .int .u8 (b8 ((gi r_3 i_1).2) 6), .int .u8 (b8 ((gi r_3 i_1).2) 7), .int .u8 (b8 ((gi r_3 i_1).2) 8), .int .u8 (b8 ((gi r_3 i_1).2) 9), .int .u8 (b8 ((gi r_3 i_1).2) 10), .int .u8 (b8 ((gi r_3 i_1).2) 11), .int .u8 (b8 ((gi r_3 i_1).2) 12), .int .u8 (b8 ((gi r_3 i_1).2) 13), .int .u8 (b8 ((gi r_3 i_1).2) 14), .int .u8 (b8 ((gi r_3 i_1).2) 15)]) #[.bool false, .int .u8 0, .int .u8 0, .int .u8 0, .int .u8 0, .int .u8 0, .int .u8 0, .int .u8 0, .int .u8 0, .int .u8 0, .int .u8 0, .int .u8 0, .int .u8 0, .int .u8 0, .int .u8 0, .int .u8 0, .int .u8 0] ([(gi r_3 i_1)] : List T_api_Addr) hS tl_22 (by decide) (by decide) (by kernel_rfl) (by kernel_rfl) rfl (by intro x hx; rfl) rfl) ?_
                            rintro _ h_43 ⟨b_13, rfl, hS, hk⟩
                            replace hK := hK.trans hk
                            replace hL_s_On := hL_s_On.kp hk
                            replace hL_s_Off := hL_s_Off.kp hk
                            replace hL_b := hL_b.kp hk
                            replace hL_1 := hL_1.kp hk
                            replace hL_2 := hL_2.kp hk
                            replace hL_3 := hL_3.kp hk
                            obtain ⟨ho_6, hM⟩ := hM
                            refine HO.eff (want_none) rfl (st_append te_22 hS (i := 4) rfl (hS.own 0 rfl).slice rfl rfl rfl (by intro a _ u hu; simp [e_api_Addr, encI, encN, encB, encT] at hu; rcases hu with rfl | rfl | rfl | rfl | rfl | rfl | rfl | rfl | rfl | rfl | rfl | rfl | rfl | rfl | rfl | rfl | rfl <;> rfl) ho_6 (by omega)) ?_
                            rintro v_5 h_44 ⟨hS, hk⟩
                            replace hS : St F_20 (Ow.own 34 17 e_api_Addr (.slice (some ⟨b_13, 0, none⟩) 1 1) ([(gi r_3 i_1)] : List T_api_Addr) :: Ow.box b_1 24 #[.bool s_Exclude, vs_On, vs_Off] :: Ow.box b_2 29 #[.bool false, .slice none 0 0, .slice none 0 0, .slice none 0 0, .slice none 0 0, .bool false, .slice none 0 0, .bool false] :: Ow.box b_3 29 #[.bool out_0_1, vout_1_1, vout_2_1, vout_3_3, vout_4_2, .bool out_5_1, vout_6_2, .bool out_7_1] :: Ow.own 34 17 e_api_Addr v_5 (out_1_1 ++ ([(gi r_3 i_1)] : List T_api_Addr)) :: Ow.own 34 17 e_api_Addr vout_2_1 out_2_1 :: Ow.own 34 17 e_api_Addr vout_3_3 out_3_3 :: Ow.own 34 17 e_api_Addr vout_4_2 out_4_2 :: Ow.own 34 17 e_api_Addr vout_6_2 out_6_2 :: Ow.box b_5 34 (e_api_Addr (gi r_3 i_1)).toArray :: fr) h_44 := hS
                            replace hK := hK.trans hk
                            replace hL_s_On := hL_s_On.kp hk
                            replace hL_s_Off := hL_s_Off.kp hk
                            replace hL_b := hL_b.kp hk
                            replace hL_1 := hL_1.kp hk
                            replace hL_2 := hL_2.kp hk
                            replace hL_3 := hL_3.kp hk
                            refine HO.val (v := .pointer (some ⟨b_3, 0, none⟩)) (want_none) rfl (q_fieldAddr fa_29_0 rfl rfl) ?_
                            refine HO.val (v := .pointer (some ⟨b_3, 1, none⟩)) (want_none) rfl (q_fieldAddr fa_24_1 rfl rfl) ?_
                            refine HO.sto (want_none) rfl (st_store (c' := #[.bool out_0_1, v_5, vout_2_1, vout_3_3, vout_4_2, .bool out_5_1, vout_6_2, .bool out_7_1]) hS (i := 3) rfl to_22 rfl rfl (shp (hS.own 4 rfl).slice).cells (shp (hS.own 4 rfl).slice).one (Nat.le_of_ble_eq_true rfl) rfl) ?_
                            rintro h_45 ⟨hS, hk⟩
                            replace hS : St F_20 (Ow.own 34 17 e_api_Addr (.slice (some ⟨b_13, 0, none⟩) 1 1) ([(gi r_3 i_1)] : List T_api_Addr) :: Ow.box b_1 24 #[.bool s_Exclude, vs_On, vs_Off] :: Ow.box b_2 29 #[.bool false, .slice none 0 0, .slice none 0 0, .slice none 0 0, .slice none 0 0, .bool false, .slice none 0 0, .bool false] :: Ow.box b_3 29 #[.bool out_0_1, v_5, vout_2_1, vout_3_3, vout_4_2, .bool out_5_1, vout_6_2, .bool out_7_1] :: Ow.own 34 17 e_api_Addr v_5 (out_1_1 ++ ([(gi r_3 i_1)] : List T_api_Addr)) :: Ow.own 34 17 e_api_Addr vout_2_1 out_2_1 :: Ow.own 34 17 e_api_Addr vout_3_3 out_3_3 :: Ow.own 34 17 e_api_Addr vout_4_2 out_4_2 :: Ow.own 34 17 e_api_Addr vout_6_2 out_6_2 :: Ow.box b_5 34 (e_api_Addr (gi r_3 i_1)).toArray :: fr) h_45 := hS
                            replace hK := hK.trans hk
                            replace hL_s_On := hL_s_On.kp hk
                            replace hL_s_Off := hL_s_Off.kp hk
                            replace hL_b := hL_b.kp hk
                            replace hL_1 := hL_1.kp hk
                            replace hL_2 := hL_2.kp hk
                            replace hL_3 := hL_3.kp hk
                            refine HO.nil (thenQ_normal (?_))
                            replace hS : St F_20 (Ow.box b_1 24 #[.bool s_Exclude, vs_On, vs_Off] :: Ow.box b_2 29 #[.bool false, .slice none 0 0, .slice none 0 0, .slice none 0 0, .slice none 0 0, .bool false, .slice none 0 0, .bool false] :: Ow.box b_3 29 #[.bool out_0_1, v_5, vout_2_1, vout_3_3, vout_4_2, .bool out_5_1, vout_6_2, .bool out_7_1] :: Ow.own 34 17 e_api_Addr v_5 (out_1_1 ++ ([(gi r_3 i_1)] : List T_api_Addr)) :: Ow.own 34 17 e_api_Addr vout_2_1 out_2_1 :: Ow.own 34 17 e_api_Addr vout_3_3 out_3_3 :: Ow.own 34 17 e_api_Addr vout_4_2 out_4_2 :: Ow.own 34 17 e_api_Addr vout_6_2 out_6_2 :: Ow.box b_5 34 (e_api_Addr (gi r_3 i_1)).toArray :: fr) h_45 := hS.perm2 [1, 2, 3, 4, 5, 6, 7, 8, 9] 10 rfl rfl
                            exact ⟨F_20, out_1_1 ++ ([(gi r_3 i_1)] : List T_api_Addr), v_5, rfl, rfl, rfl, rfl, rfl, rfl, rfl, rfl, rfl, rfl, rfl, hK, hS, hL_s_On, hL_s_Off, hL_b, hL_1, hL_2, hL_3, hM⟩
                          · replace hM := hM.2 c_33
                            refine HW.skip (thenQ_normal (?_))
                            exact ⟨F_20, out_1_1, vout_1_1, rfl, rfl, rfl, rfl, rfl, rfl, rfl, rfl, rfl, rfl, rfl, hK, hS, hL_s_On, hL_s_Off, hL_b, hL_1, hL_2, hL_3, hM⟩
                        · rintro f_15 h_46 ⟨F_21, out_1_2, vout_1_2, e1, e2, e3, e6, e7, e8, e9, e10, e11, e12, e17, hK, hS, hL_s_On, hL_s_Off, hL_b, hL_1, hL_2, hL_3, hM⟩
                          unfold ref15_Apply_j14 at hM
                          refine HW.fr [(1, .int .i64 kind), (2, vb), (3, .pointer (some ⟨b_1, 0, none⟩)), (6, .pointer (some ⟨b_2, 0, none⟩)), (7, .pointer (some ⟨b_3, 0, none⟩)), (8, .bool b_4), (9, .bool ex_1), (10, vr_3), (11, .int .i64 i_1), (12, .pointer (some ⟨b_5, 0, none⟩)), (17, .bool nowOff_3)] ⟨e1, e2, e3, e6, e7, e8, e9, e10, e11, e12, e17, trivial⟩ ?_
                          refine HW.seq ?_
                          refine HW.region ?_
                          refine HO.val (v := .bool nowOff_3) (want_none) rfl (q_move rfl) ?_
                          refine HO.nil (thenQ_normal (?_))
                          refine HW.cond nowOff_3 rfl (fun c_34 => ?_) (fun c_34 => ?_)
                          · replace hM := hM.1 c_34
                            refine HW.region ?_
                            refine HO.val (v := .pointer (some ⟨b_3, 0, none⟩)) (want_none) rfl (q_fieldAddr fa_29_0 rfl rfl) ?_
                            refine HO.val (v := .pointer (some ⟨b_3, 2, none⟩)) (want_none) rfl (q_fieldAddr fa_24_2 rfl rfl) ?_
                            refine HO.val (v := vout_2_1) (want_none) rfl (q_load to_22 rfl (Blk.cell (hS.box 2 rfl) rfl)) ?_
                            refine HO.val (v := .agg (e_api_Addr (gi r_3 i_1)).toArray) (want_none) rfl (q_loadAgg (cs := (e_api_Addr (gi r_3 i_1))) ta_34 rfl rfl (Blk.cells (k := 17) (hS.box 8 rfl) rfl)) ?_
                            refine HO.eff (want_none) rfl (st_lit (enc := e_api_Addr) (cells := #[.bool ((gi r_3 i_1).1), .int .u8 (b8 ((gi r_3 i_1).2) 0), .int .u8 (b8 ((gi r_3 i_1).2) 1), .int .u8 (b8 ((gi r_3 i_1).2) 2), .int .u8 (b8 ((gi r_3 i_1).2) 3), .int .u8 (b8 ((gi r_3 i_1).2) 4), .int .u8 (b8 ((gi r_3 i_1).2) 5), .int .u8 (b8 ((gi r_3 i_1).2) 6), .int .u8 (b8 ((gi r_3 i_1).2) 7), .int .u8 (b8 ((gi r_3 i_1).2) 8), .int .u8 (b8 ((gi r_3 i_1).2) 9), .int .u8 (b8 ((gi r_3 i_1).2) 10), .int .u8 (b8 ((gi r_3 i_1).2) 11), .int .u8 (b8 ((gi r_3 i_1).2) 12), .int .u8 (b8 ((gi r_3 i_1).2) 13), .int .u8 (b8 ((gi r_3 i_1).2) 14), .int .u8 (b8 ((gi r_3 i_1).2) 15)]) #[.bool false, .int .u8 0, .int .u8 0, .int .u8 0, .int .u8 0, .int .u8 0, .int .u8 0, .int .u8 0, .int .u8 0, .int .u8 0, .int .u8 0, .int .u8 0, .int .u8 0, .int .u8 0, .int .u8 0, .int .u8 0, .int .u8 0] ([(gi r_3 i_1)] : List T_api_Addr) hS tl_22 (by decide) (by decide) (by kernel_rfl) (by kernel_rfl) rfl (by intro x hx; rfl) rfl) ?_
                            rintro _ h_47 ⟨b_14, rfl, hS, hk⟩
                            replace hK := hK.trans hk
                            replace hL_s_On := hL_s_On.kp hk
                            replace hL_s_Off := hL_s_Off.kp hk
                            replace hL_b := hL_b.kp hk
                            replace hL_1 := hL_1.kp hk
                            replace hL_2 := hL_2.kp hk
                            replace hL_3 := hL_3.kp hk
                            obtain ⟨ho_7, hM⟩ := hM
                            refine HO.eff (want_none) rfl (st_append te_22 hS (i := 5) rfl (hS.own 0 rfl).slice rfl rfl rfl (by intro a _ u hu; simp [e_api_Addr, encI, encN, encB, encT] at hu; rcases hu with rfl | rfl | rfl | rfl | rfl | rfl | rfl | rfl | rfl | rfl | rfl | rfl | rfl | rfl | rfl | rfl | rfl <;> rfl) ho_7 (by omega)) ?_
                            rintro v_6 h_48 ⟨hS, hk⟩
                            replace hS : St F_21 (Ow.own 34 17 e_api_Addr (.slice (some ⟨b_14, 0, none⟩) 1 1) ([(gi r_3 i_1)] : List T_api_Addr) :: Ow.box b_1 24 #[.bool s_Exclude, vs_On, vs_Off] :: Ow.box b_2 29 #[.bool false, .slice none 0 0, .slice none 0 0, .slice none 0 0, .slice none 0 0, .bool false, .slice none 0 0, .bool false] :: Ow.box b_3 29 #[.bool out_0_1, vout_1_2, vout_2_1, vout_3_3, vout_4_2, .bool out_5_1, vout_6_2, .bool out_7_1] :: Ow.own 34 17 e_api_Addr vout_1_2 out_1_2 :: Ow.own 34 17 e_api_Addr v_6 (out_2_1 ++ ([(gi r_3 i_1)] : List T_api_Addr)) :: Ow.own 34 17 e_api_Addr vout_3_3 out_3_3 :: Ow.own 34 17 e_api_Addr vout_4_2 out_4_2 :: Ow.own 34 17 e_api_Addr vout_6_2 out_6_2 :: Ow.box b_5 34 (e_api_Addr (gi r_3 i_1)).toArray :: fr) h_48 := hS
                            replace hK := hK.trans hk
                            replace hL_s_On := hL_s_On.kp hk
                            replace hL_s_Off := hL_s_Off.kp hk
                            replace hL_b := hL_b.kp hk
                            replace hL_1 := hL_1.kp hk
                            replace hL_2 := hL_2.kp hk
                            replace hL_3 := hL_3.kp hk
                            refine HO.val (v := .pointer (some ⟨b_3, 0, none⟩)) (want_none) rfl (q_fieldAddr fa_29_0 rfl rfl) ?_
                            refine HO.val (v := .pointer (some ⟨b_3, 2, none⟩)) (want_none) rfl (q_fieldAddr fa_24_2 rfl rfl) ?_
                            refine HO.sto (want_none) rfl (st_store (c' := #[.bool out_0_1, vout_1_2, v_6, vout_3_3, vout_4_2, .bool out_5_1, vout_6_2, .bool out_7_1]) hS (i := 3) rfl to_22 rfl rfl (shp (hS.own 5 rfl).slice).cells (shp (hS.own 5 rfl).slice).one (Nat.le_of_ble_eq_true rfl) rfl) ?_
                            rintro h_49 ⟨hS, hk⟩
                            replace hS : St F_21 (Ow.own 34 17 e_api_Addr (.slice (some ⟨b_14, 0, none⟩) 1 1) ([(gi r_3 i_1)] : List T_api_Addr) :: Ow.box b_1 24 #[.bool s_Exclude, vs_On, vs_Off] :: Ow.box b_2 29 #[.bool false, .slice none 0 0, .slice none 0 0, .slice none 0 0, .slice none 0 0, .bool false, .slice none 0 0, .bool false] :: Ow.box b_3 29 #[.bool out_0_1, vout_1_2, v_6, vout_3_3, vout_4_2, .bool out_5_1, vout_6_2, .bool out_7_1] :: Ow.own 34 17 e_api_Addr vout_1_2 out_1_2 :: Ow.own 34 17 e_api_Addr v_6 (out_2_1 ++ ([(gi r_3 i_1)] : List T_api_Addr)) :: Ow.own 34 17 e_api_Addr vout_3_3 out_3_3 :: Ow.own 34 17 e_api_Addr vout_4_2 out_4_2 :: Ow.own 34 17 e_api_Addr vout_6_2 out_6_2 :: Ow.box b_5 34 (e_api_Addr (gi r_3 i_1)).toArray :: fr) h_49 := hS
                            replace hK := hK.trans hk
                            replace hL_s_On := hL_s_On.kp hk
                            replace hL_s_Off := hL_s_Off.kp hk
                            replace hL_b := hL_b.kp hk
                            replace hL_1 := hL_1.kp hk
                            replace hL_2 := hL_2.kp hk
                            replace hL_3 := hL_3.kp hk
                            refine HO.nil (blockQ_normal (thenQ_normal (?_)))
                            refine HW.region ?_
                            refine HO.val (v := .int .i64 i_1) (want_none) rfl (q_move rfl) ?_
                            obtain ⟨ho_8, hM⟩ := hM
                            refine HO.val (v := .int .i64 (i_1 + 1)) (want_none) rfl (q_addN _ rfl rfl rfl ho_8.1 ho_8.2) ?_
                            refine HO.val (v := .int .i64 (i_1 + 1)) (want_none) rfl (q_assign rfl) ?_
                            refine HO.nil (thenQ_normal (?_))
                            replace hS : St F_21 (Ow.box b_1 24 #[.bool s_Exclude, vs_On, vs_Off] :: Ow.box b_2 29 #[.bool false, .slice none 0 0, .slice none 0 0, .slice none 0 0, .slice none 0 0, .bool false, .slice none 0 0, .bool false] :: Ow.box b_3 29 #[.bool out_0_1, vout_1_2, v_6, vout_3_3, vout_4_2, .bool out_5_1, vout_6_2, .bool out_7_1] :: Ow.own 34 17 e_api_Addr vout_1_2 out_1_2 :: Ow.own 34 17 e_api_Addr v_6 (out_2_1 ++ ([(gi r_3 i_1)] : List T_api_Addr)) :: Ow.own 34 17 e_api_Addr vout_3_3 out_3_3 :: Ow.own 34 17 e_api_Addr vout_4_2 out_4_2 :: Ow.own 34 17 e_api_Addr vout_6_2 out_6_2 :: fr) h_49 := hS.perm2 [1, 2, 3, 4, 5, 6, 7, 8] 10 rfl rfl
                            rw [hKe_1] at hM
                            exact ⟨(out_1_2, out_2_1 ++ ([(gi r_3 i_1)] : List T_api_Addr), out_3_3, out_4_2, out_6_2, i_1 + 1), ⟨F_21, vout_1_2, v_6, vout_3_3, vout_4_2, vout_6_2, rfl, rfl, rfl, rfl, rfl, rfl, rfl, rfl, rfl, hK, hS, hL_s_On, hL_s_Off, hL_b, hL_1, hL_2, hL_3, hM.1⟩, hM.2⟩
                          · replace hM := hM.2 c_34
                            refine HW.skip (blockQ_normal (thenQ_normal (?_)))
                            refine HW.region ?_
                            refine HO.val (v := .int .i64 i_1) (want_none) rfl (q_move rfl) ?_
                            obtain ⟨ho_9, hM⟩ := hM
                            refine HO.val (v := .int .i64 (i_1 + 1)) (want_none) rfl (q_addN _ rfl rfl rfl ho_9.1 ho_9.2) ?_
                            refine HO.val (v := .int .i64 (i_1 + 1)) (want_none) rfl (q_assign rfl) ?_
                            refine HO.nil (thenQ_normal (?_))
                            replace hS : St F_21 (Ow.box b_1 24 #[.bool s_Exclude, vs_On, vs_Off] :: Ow.box b_2 29 #[.bool false, .slice none 0 0, .slice none 0 0, .slice none 0 0, .slice none 0 0, .bool false, .slice none 0 0, .bool false] :: Ow.box b_3 29 #[.bool out_0_1, vout_1_2, vout_2_1, vout_3_3, vout_4_2, .bool out_5_1, vout_6_2, .bool out_7_1] :: Ow.own 34 17 e_api_Addr vout_1_2 out_1_2 :: Ow.own 34 17 e_api_Addr vout_2_1 out_2_1 :: Ow.own 34 17 e_api_Addr vout_3_3 out_3_3 :: Ow.own 34 17 e_api_Addr vout_4_2 out_4_2 :: Ow.own 34 17 e_api_Addr vout_6_2 out_6_2 :: fr) h_46 := hS.perm2 [0, 1, 2, 3, 4, 5, 6, 7] 9 rfl rfl
                            rw [hKe_1] at hM
                            exact ⟨(out_1_2, out_2_1, out_3_3, out_4_2, out_6_2, i_1 + 1), ⟨F_21, vout_1_2, vout_2_1, vout_3_3, vout_4_2, vout_6_2, rfl, rfl, rfl, rfl, rfl, rfl, rfl, rfl, rfl, hK, hS, hL_s_On, hL_s_Off, hL_b, hL_1, hL_2, hL_3, hM.1⟩, hM.2⟩
        · replace hM := hM.2 (of_decide_eq_false c_8)
          refine HW.exit (thenQ_exit (thenQ_exit (blockQ_exit (thenQ_normal (?_)))))
          refine HW.seq ?_
          refine HW.region ?_
          refine HO.val (v := .agg #[.bool out_0_1, vout_1_1, vout_2_1, vout_3_1, vout_4_1, .bool out_5_1, vout_6_1, .bool out_7_1]) (want_none) rfl (q_loadAgg (cs := [.bool out_0_1, vout_1_1, vout_2_1, vout_3_1, vout_4_1, .bool out_5_1, vout_6_1, .bool out_7_1]) ta_29 rfl rfl (Blk.cells (k := 8) (hS.box 2 rfl) rfl)) ?_
          refine HO.sto (want_none) rfl (st_storeAgg (c' := #[.bool out_0_1, vout_1_1, vout_2_1, vout_3_1, vout_4_1, .bool out_5_1, vout_6_1, .bool out_7_1]) hS (i := 1) rfl ta_29 rfl rfl rfl (List.forall_mem_cons.2 ⟨rfl, (List.forall_mem_cons.2 ⟨(shp (hS.own 3 rfl).slice).one, (List.forall_mem_cons.2 ⟨(shp (hS.own 4 rfl).slice).one, (List.forall_mem_cons.2 ⟨(shp (hS.own 5 rfl).slice).one, (List.forall_mem_cons.2 ⟨(shp (hS.own 6 rfl).slice).one, (List.forall_mem_cons.2 ⟨rfl, (List.forall_mem_cons.2 ⟨(shp (hS.own 7 rfl).slice).one, (List.forall_mem_cons.2 ⟨rfl, (fun _ h => by cases h)⟩)⟩)⟩)⟩)⟩)⟩)⟩)⟩) (Nat.le_of_ble_eq_true rfl) rfl) ?_
          rintro h_50 ⟨hS, hk⟩
          replace hS : St F_7 (Ow.box b_1 24 #[.bool s_Exclude, vs_On, vs_Off] :: Ow.box b_2 29 #[.bool out_0_1, vout_1_1, vout_2_1, vout_3_1, vout_4_1, .bool out_5_1, vout_6_1, .bool out_7_1] :: Ow.box b_3 29 #[.bool out_0_1, vout_1_1, vout_2_1, vout_3_1, vout_4_1, .bool out_5_1, vout_6_1, .bool out_7_1] :: Ow.own 34 17 e_api_Addr vout_1_1 out_1_1 :: Ow.own 34 17 e_api_Addr vout_2_1 out_2_1 :: Ow.own 34 17 e_api_Addr vout_3_1 out_3_1 :: Ow.own 34 17 e_api_Addr vout_4_1 out_4_1 :: Ow.own 34 17 e_api_Addr vout_6_1 out_6_1 :: fr) h_50 := hS
          replace hK := hK.trans hk
          replace hL_s_On := hL_s_On.kp hk
          replace hL_s_Off := hL_s_Off.kp hk
          replace hL_b := hL_b.kp hk
          replace hL_1 := hL_1.kp hk
          replace hL_2 := hL_2.kp hk
          replace hL_3 := hL_3.kp hk
          refine HO.nil (thenQ_normal (?_))
          refine HW.ret (?_)
          refine ⟨.inr rfl, .agg #[.bool out_0_1, vout_1_1, vout_2_1, vout_3_1, vout_4_1, .bool out_5_1, vout_6_1, .bool out_7_1], res1 rfl (rca (cs := [.bool out_0_1, vout_1_1, vout_2_1, vout_3_1, vout_4_1, .bool out_5_1, vout_6_1, .bool out_7_1]) ta_29 rfl rfl (Blk.cells (k := 8) (hS.box 1 rfl) rfl)), ?_⟩
          replace hS : St F_7 (Ow.own 34 17 e_api_Addr vout_1_1 out_1_1 :: Ow.own 34 17 e_api_Addr vout_2_1 out_2_1 :: Ow.own 34 17 e_api_Addr vout_3_1 out_3_1 :: Ow.own 34 17 e_api_Addr vout_4_1 out_4_1 :: Ow.own 34 17 e_api_Addr vout_6_1 out_6_1 :: fr) h_50 := hS.perm2 [3, 4, 5, 6, 7] 8 rfl rfl
          exact ⟨F_7, out_0_1, out_1_1, out_2_1, out_3_1, out_4_1, out_5_1, out_6_1, out_7_1, vout_1_1, vout_2_1, vout_3_1, vout_4_1, vout_6_1, rfl, hK, hS, hL_s_On, hL_s_Off, hL_b, hM⟩

def ref11_Same_l1 (a : List T_api_Addr) (b : List T_api_Addr) (Q : Bool → Prop) (K_1 : Int → Prop) (i_1 : Int) : Prop :=
  (i_1 < (a.length : Int) → ((0 : Int) ≤ i_1 ∧ i_1 < (a.length : Int)) ∧ (((0 : Int) ≤ i_1 ∧ i_1 < (b.length : Int)) ∧ ((¬ (((gi a i_1) : T_api_Addr) = (gi b i_1)) → Q false) ∧ (((gi a i_1) : T_api_Addr) = (gi b i_1) → (I64 (i_1 + 1)) ∧ (K_1 (i_1 + 1)))))) ∧ (¬ (i_1 < (a.length : Int)) → Q true)
def ref11_Same_W (a : List T_api_Addr) (b : List T_api_Addr) (Q : Bool → Prop) : Prop :=
  (¬ ((a.length : Int) = (b.length : Int)) → Q false) ∧ ((a.length : Int) = (b.length : Int) → loopW (fun (K_1 : Int → Prop) (s : Int) => ref11_Same_l1 a b Q K_1 s) 0)
set_option maxHeartbeats 40000000 in
set_option maxRecDepth 100000 in
theorem ref11_Same_walk {F : Fz} {fr : List Ow} {h0 : Heap} (a : List T_api_Addr) (b : List T_api_Addr) (va : Value) (vb : Value) (hS : St F (fr) h0) (hL_a : SliceF F h0 17 e_api_Addr va a) (hL_b : SliceF F h0 17 e_api_Addr vb b) {Q : Bool → Prop} (hM : ref11_Same_W a b Q) :
    HC Try.prog 35 #[va, vb] h0 fun u h' => ∃ (F' : Fz) (r_1 : Bool), u = .bool r_1 ∧ Kp F h0 F' h' ∧ St F' (fr) h' ∧ (SliceF F' h' 17 e_api_Addr va a) ∧ (SliceF F' h' 17 e_api_Addr vb b) ∧ Q r_1 := by
  unfold ref11_Same_W at hM
  have hK := Kp.refl F h0
  refine HC.of_HW (n := 26) Try.func35 rfl rfl (Nat.le_of_ble_eq_true rfl) ?_
  refine HW.seq ?_
  refine HW.region ?_
  refine HO.val (v := .bool false) (want_none) rfl (q_assign rfl) ?_
  refine HO.nil (thenQ_normal (?_))
  refine HW.seq ?_
  refine HW.seq ?_
  refine HW.region ?_
  refine HO.val (v := va) (want_none) rfl (q_move rfl) ?_
  refine HO.val (v := .int .i64 (a.length : Int)) (want_none) rfl (q_len ts_22 (shp hL_a.is) rfl rfl) ?_
  refine HO.val (v := vb) (want_none) rfl (q_move rfl) ?_
  refine HO.val (v := .int .i64 (b.length : Int)) (want_none) rfl (q_len ts_22 (shp hL_b.is) rfl rfl) ?_
  refine HO.val (v := .bool (!decide ((a.length : Int) = (b.length : Int)))) (want_none) rfl (q_neq rfl rfl) ?_
  refine HO.nil (thenQ_normal (?_))
  refine HW.cond (!decide ((a.length : Int) = (b.length : Int))) rfl (fun c_1 => ?_) (fun c_1 => ?_)
  · replace hM := hM.1 (nd_true c_1)
    refine HW.seq ?_
    refine HW.region ?_
    refine HO.val (v := .bool false) (want_none) rfl (q_assign rfl) ?_
    refine HO.nil (thenQ_normal (?_))
    refine HW.ret (thenQ_ret (?_))
    refine ⟨.inr rfl, .bool false, res1 rfl (rt rfl), ?_⟩
    exact ⟨F, false, rfl, hK, hS, hL_a, hL_b, hM⟩
  · replace hM := hM.2 (nd_false c_1)
    refine HW.skip (thenQ_normal (?_))
    refine HW.seq ?_
    refine HW.seq ?_
    refine HW.region ?_
    refine HO.val (v := .int .i64 0) (want_none) rfl (q_assign rfl) ?_
    refine HO.nil (thenQ_normal (?_))
    refine HW.block ?_
    obtain ⟨I_1, m_1, hI_1, hR_1⟩ := hM
    refine HW.loop (S := Int) (fun i_1 f h => ∃ (F' : Fz), f 0 = va ∧ f 1 = vb ∧ f 4 = .bool false ∧ f 5 = .int .i64 i_1 ∧ Kp F h0 F' h ∧ St F' (fr) h ∧ (SliceF F' h 17 e_api_Addr va a) ∧ (SliceF F' h 17 e_api_Addr vb b) ∧ I_1 i_1) m_1 0 ⟨F, rfl, rfl, rfl, rfl, hK, hS, hL_a, hL_b, hI_1⟩ ?_
    rintro i_1 f_1 h_1 ⟨F_1, e0, e1, e4, e5, hK, hS, hL_a, hL_b, hI0⟩
    obtain ⟨K_1, hKe_1⟩ : ∃ K : Int → Prop, K = fun i_1' => I_1 i_1' ∧ m_1 i_1' < m_1 i_1 := ⟨_, rfl⟩
    have hM : ref11_Same_l1 a b Q K_1 i_1 := by rw [hKe_1]; exact hR_1 i_1 hI0
    unfold ref11_Same_l1 at hM
    refine HW.fr [(0, va), (1, vb), (4, .bool false), (5, .int .i64 i_1)] ⟨e0, e1, e4, e5, trivial⟩ ?_
    refine HW.seq ?_
    refine HW.seq ?_
    refine HW.region ?_
    refine HO.val (v := .int .i64 i_1) (want_none) rfl (q_move rfl) ?_
    refine HO.val (v := va) (want_none) rfl (q_move rfl) ?_
    refine HO.val (v := .int .i64 (a.length : Int)) (want_none) rfl (q_len ts_22 (shp hL_a.is) rfl rfl) ?_
    refine HO.val (v := .bool (decide (i_1 < (a.length : Int)))) (want_none) rfl (q_lss rfl rfl) ?_
    refine HO.nil (thenQ_normal (?_))
    refine HW.cond (decide (i_1 < (a.length : Int))) rfl (fun c_2 => ?_) (fun c_2 => ?_)
    · replace hM := hM.1 (of_decide_eq_true c_2)
      refine HW.skip (thenQ_normal (?_))
      refine HW.seq ?_
      refine HW.block ?_
      refine HW.seq ?_
      refine HW.regionA 9 mixed (fun h => (SliceIs h 17 e_api_Addr va a) ∧ (SliceIs h 17 e_api_Addr vb b)) [] (by kernel_rfl) ?_
      refine HA.val (k := 0) (v := va) rfl rfl (by kernel_rfl) (by kernel_rfl) (want_none) rfl (fun _ ⟨hL_a, hL_b⟩ => q_move rfl) ?_
      refine HA.val (k := 1) (v := .int .i64 i_1) rfl rfl (by kernel_rfl) (by kernel_rfl) (want_none) rfl (fun _ ⟨hL_a, hL_b⟩ => q_move rfl) ?_
      obtain ⟨ho_1, hM⟩ := hM
      refine HA.val (k := 2) (v := elemPtr 17 va (i_1).toNat) rfl rfl (by kernel_rfl) (by kernel_rfl) (want_none) rfl (fun _ ⟨hL_a, hL_b⟩ => q_idx ts_22 hL_a rfl rfl ho_1) ?_
      refine HA.val (k := 3) (v := .agg (e_api_Addr (gi a i_1)).toArray) rfl rfl (by kernel_rfl) (by kernel_rfl) (want_none) rfl (fun _ ⟨hL_a, hL_b⟩ => q_ldElemAgg (cs := (e_api_Addr (gi a i_1))) ta_34 hL_a rfl ho_1 rfl) ?_
      refine HA.val (k := 4) (v := vb) rfl rfl (by kernel_rfl) (by kernel_rfl) (want_none) rfl (fun _ ⟨hL_a, hL_b⟩ => q_move rfl) ?_
      refine HA.val (k := 5) (v := .int .i64 i_1) rfl rfl (by kernel_rfl) (by kernel_rfl) (want_none) rfl (fun _ ⟨hL_a, hL_b⟩ => q_move rfl) ?_
      obtain ⟨ho_2, hM⟩ := hM
      refine HA.val (k := 6) (v := elemPtr 17 vb (i_1).toNat) rfl rfl (by kernel_rfl) (by kernel_rfl) (want_none) rfl (fun _ ⟨hL_a, hL_b⟩ => q_idx ts_22 hL_b rfl rfl ho_2) ?_
      refine HA.val (k := 7) (v := .agg (e_api_Addr (gi b i_1)).toArray) rfl rfl (by kernel_rfl) (by kernel_rfl) (want_none) rfl (fun _ ⟨hL_a, hL_b⟩ => q_ldElemAgg (cs := (e_api_Addr (gi b i_1))) ta_34 hL_b rfl ho_2 rfl) ?_
      refine HA.val (k := 8) (v := .bool (!decide (((gi a i_1) : T_api_Addr) = (gi b i_1)))) rfl rfl (by kernel_rfl) (by kernel_rfl) (want_none) rfl (fun _ ⟨hL_a, hL_b⟩ => q_neqAgg (a := (gi a i_1)) (b := (gi b i_1)) (fun a b w => teq_34 9997 a b w) (by kernel_rfl) rfl rfl rfl rfl) ?_
      refine HA.nil ⟨⟨hL_a.is, hL_b.is⟩, (Go.Wk.at_nil _ _)⟩ (by kernel_rfl) (thenQ_normal (?_))
      refine HW.cond (!decide (((gi a i_1) : T_api_Addr) = (gi b i_1))) rfl (fun c_3 => ?_) (fun c_3 => ?_)
      · replace hM := hM.1 (nd_true c_3)
        refine HW.seq ?_
        refine HW.region ?_
        refine HO.val (v := .bool false) (want_none) rfl (q_assign rfl) ?_
        refine HO.nil (thenQ_normal (?_))
        refine HW.ret (blockQ_ret (thenQ_ret (thenQ_ret (blockQ_ret (thenQ_ret (?_))))))
        refine ⟨.inr rfl, .bool false, res1 rfl (rt rfl), ?_⟩
        exact ⟨F_1, false, rfl, hK, hS, hL_a, hL_b, hM⟩
      · replace hM := hM.2 (nd_false c_3)
        refine HW.skip (blockQ_normal (thenQ_normal (?_)))
        refine HW.region ?_
        refine HO.val (v := .int .i64 i_1) (want_none) rfl (q_move rfl) ?_
        obtain ⟨ho_3, hM⟩ := hM
        refine HO.val (v := .int .i64 (i_1 + 1)) (want_none) rfl (q_addN _ rfl rfl rfl ho_3.1 ho_3.2) ?_
        refine HO.val (v := .int .i64 (i_1 + 1)) (want_none) rfl (q_assign rfl) ?_
        refine HO.nil (thenQ_normal (?_))
        rw [hKe_1] at hM
        exact ⟨i_1 + 1, ⟨F_1, rfl, rfl, rfl, rfl, hK, hS, hL_a, hL_b, hM.1⟩, hM.2⟩
    · replace hM := hM.2 (of_decide_eq_false c_2)
      refine HW.exit (thenQ_exit (thenQ_exit (blockQ_exit (thenQ_normal (?_)))))
      refine HW.seq ?_
      refine HW.region ?_
      refine HO.val (v := .bool true) (want_none) rfl (q_assign rfl) ?_
      refine HO.nil (thenQ_normal (?_))
      refine HW.ret (?_)
      refine ⟨.inr rfl, .bool true, res1 rfl (rt rfl), ?_⟩
      exact ⟨F_1, true, rfl, hK, hS, hL_a, hL_b, hM⟩

def ref15_Same_W (a_Exclude : Bool) (a_On : List T_api_Addr) (a_Off : List T_api_Addr) (b_Exclude : Bool) (b_On : List T_api_Addr) (b_Off : List T_api_Addr) (Q : Bool → Prop) : Prop :=
  ((a_Exclude == b_Exclude) = true → ref11_Same_W a_On b_On (fun r_2 => (r_2 = true → ref11_Same_W a_Off b_Off (fun r_3 => Q r_3)) ∧ (r_2 = false → Q false))) ∧ ((a_Exclude == b_Exclude) = false → Q false)
set_option maxHeartbeats 40000000 in
set_option maxRecDepth 100000 in
theorem ref15_Same_walk {F : Fz} {fr : List Ow} {h0 : Heap} (a_Exclude : Bool) (a_On : List T_api_Addr) (a_Off : List T_api_Addr) (b_Exclude : Bool) (b_On : List T_api_Addr) (b_Off : List T_api_Addr) (va_On : Value) (va_Off : Value) (vb_On : Value) (vb_Off : Value) (hS : St F (fr) h0) (hL_a_On : SliceF F h0 17 e_api_Addr va_On a_On) (hL_a_Off : SliceF F h0 17 e_api_Addr va_Off a_Off) (hL_b_On : SliceF F h0 17 e_api_Addr vb_On b_On) (hL_b_Off : SliceF F h0 17 e_api_Addr vb_Off b_Off) {Q : Bool → Prop} (hM : ref15_Same_W a_Exclude a_On a_Off b_Exclude b_On b_Off Q) :
    HC Try.prog 21 #[.agg #[.bool a_Exclude, va_On, va_Off], .agg #[.bool b_Exclude, vb_On, vb_Off]] h0 fun u h' => ∃ (F' : Fz) (r_1 : Bool), u = .bool r_1 ∧ Kp F h0 F' h' ∧ St F' (fr) h' ∧ (SliceF F' h' 17 e_api_Addr va_On a_On) ∧ (SliceF F' h' 17 e_api_Addr va_Off a_Off) ∧ (SliceF F' h' 17 e_api_Addr vb_On b_On) ∧ (SliceF F' h' 17 e_api_Addr vb_Off b_Off) ∧ Q r_1 := by
  unfold ref15_Same_W at hM
  have hK := Kp.refl F h0
  refine HC.of_HW (n := 24) Try.func21 rfl rfl (Nat.le_of_ble_eq_true rfl) ?_
  refine HW.seq ?_
  refine HW.region ?_
  refine HO.eff (want_none) rfl (st_box (c := #[.bool a_Exclude, va_On, va_Off]) (k' := 3) hS rfl rfl) ?_
  rintro _ h_1 ⟨b_1, rfl, hS, hk⟩
  replace hK := hK.trans hk
  replace hL_a_On := hL_a_On.kp hk
  replace hL_a_Off := hL_a_Off.kp hk
  replace hL_b_On := hL_b_On.kp hk
  replace hL_b_Off := hL_b_Off.kp hk
  refine HO.eff (want_none) rfl (st_box (c := #[.bool b_Exclude, vb_On, vb_Off]) (k' := 3) hS rfl rfl) ?_
  rintro _ h_2 ⟨b_2, rfl, hS, hk⟩
  replace hK := hK.trans hk
  replace hL_a_On := hL_a_On.kp hk
  replace hL_a_Off := hL_a_Off.kp hk
  replace hL_b_On := hL_b_On.kp hk
  replace hL_b_Off := hL_b_Off.kp hk
  refine HO.val (v := .bool false) (want_none) rfl (q_assign rfl) ?_
  refine HO.nil (thenQ_normal (?_))
  refine HW.seq ?_
  refine HW.region ?_
  refine HO.val (v := .pointer (some ⟨b_1, 0, none⟩)) (want_none) rfl (q_fieldAddr fa_24_0 rfl rfl) ?_
  refine HO.val (v := .bool a_Exclude) (want_none) rfl (q_load to_4 rfl (Blk.cell (hS.box 1 rfl) rfl)) ?_
  refine HO.val (v := .pointer (some ⟨b_2, 0, none⟩)) (want_none) rfl (q_fieldAddr fa_24_0 rfl rfl) ?_
  refine HO.val (v := .bool b_Exclude) (want_none) rfl (q_load to_4 rfl (Blk.cell (hS.box 0 rfl) rfl)) ?_
  refine HO.val (v := .bool (a_Exclude == b_Exclude)) (want_none) rfl (q_eqlB Try.underlying4 rfl rfl) ?_
  refine HO.val (v := .bool (a_Exclude == b_Exclude)) (want_none) rfl (q_move rfl) ?_
  rcases Bool.eq_false_or_eq_true (a_Exclude == b_Exclude) with c_1 | c_1
  · replace hM := hM.1 c_1
    refine HO.val (v := .pointer (some ⟨b_1, 1, none⟩)) (want_by rfl rfl c_1) rfl (q_fieldAddr fa_24_1 rfl rfl) ?_
    refine HO.val (v := va_On) (want_by rfl rfl c_1) rfl (q_load to_22 rfl (Blk.cell (hS.box 1 rfl) rfl)) ?_
    refine HO.val (v := .pointer (some ⟨b_2, 1, none⟩)) (want_by rfl rfl c_1) rfl (q_fieldAddr fa_24_1 rfl rfl) ?_
    refine HO.val (v := vb_On) (want_by rfl rfl c_1) rfl (q_load to_22 rfl (Blk.cell (hS.box 0 rfl) rfl)) ?_
    refine HO.call (want_by rfl rfl c_1) rfl (ec en_35 rfl rfl) (ref11_Same_walk (fr := (Ow.box b_2 24 #[.bool b_Exclude, vb_On, vb_Off] :: Ow.box b_1 24 #[.bool a_Exclude, va_On, va_Off] :: fr)) a_On b_On va_On vb_On hS hL_a_On hL_b_On hM) ?_
    rintro _ h_3 ⟨F_1, r_2, rfl, hk, hS, _, _, hM⟩
    replace hK := hK.trans hk
    replace hL_a_On := hL_a_On.kp hk
    replace hL_a_Off := hL_a_Off.kp hk
    replace hL_b_On := hL_b_On.kp hk
    replace hL_b_Off := hL_b_Off.kp hk
    refine HO.val (v := .bool r_2) (want_none) rfl (q_pickK true rfl c_1 rfl) ?_
    refine HO.val (v := .bool r_2) (want_none) rfl (q_move rfl) ?_
    rcases Bool.eq_false_or_eq_true r_2 with c_2 | c_2
    · replace hM := hM.1 c_2
      refine HO.val (v := .pointer (some ⟨b_1, 2, none⟩)) (want_by rfl rfl c_2) rfl (q_fieldAddr fa_24_2 rfl rfl) ?_
      refine HO.val (v := va_Off) (want_by rfl rfl c_2) rfl (q_load to_22 rfl (Blk.cell (hS.box 1 rfl) rfl)) ?_
      refine HO.val (v := .pointer (some ⟨b_2, 2, none⟩)) (want_by rfl rfl c_2) rfl (q_fieldAddr fa_24_2 rfl rfl) ?_
      refine HO.val (v := vb_Off) (want_by rfl rfl c_2) rfl (q_load to_22 rfl (Blk.cell (hS.box 0 rfl) rfl)) ?_
      refine HO.call (want_by rfl rfl c_2) rfl (ec en_35 rfl rfl) (ref11_Same_walk (fr := (Ow.box b_2 24 #[.bool b_Exclude, vb_On, vb_Off] :: Ow.box b_1 24 #[.bool a_Exclude, va_On, va_Off] :: fr)) a_Off b_Off va_Off vb_Off hS hL_a_Off hL_b_Off hM) ?_
      rintro _ h_4 ⟨F_2, r_3, rfl, hk, hS, _, _, hM⟩
      replace hK := hK.trans hk
      replace hL_a_On := hL_a_On.kp hk
      replace hL_a_Off := hL_a_Off.kp hk
      replace hL_b_On := hL_b_On.kp hk
      replace hL_b_Off := hL_b_Off.kp hk
      refine HO.val (v := .bool r_3) (want_none) rfl (q_pickK true rfl c_2 rfl) ?_
      refine HO.val (v := .bool r_3) (want_none) rfl (q_assign rfl) ?_
      refine HO.nil (thenQ_normal (?_))
      refine HW.ret (?_)
      refine ⟨.inr rfl, .bool r_3, res1 rfl (rt rfl), ?_⟩
      replace hS : St F_2 (fr) h_4 := hS.perm2 [] 2 rfl rfl
      exact ⟨F_2, r_3, rfl, hK, hS, hL_a_On, hL_a_Off, hL_b_On, hL_b_Off, hM⟩
    · replace hM := hM.2 c_2
      refine HO.past (past_by rfl rfl c_2) rfl ?_
      refine HO.past (past_by rfl rfl c_2) rfl ?_
      refine HO.past (past_by rfl rfl c_2) rfl ?_
      refine HO.past (past_by rfl rfl c_2) rfl ?_
      refine HO.past (past_by rfl rfl c_2) rfl ?_
      refine HO.val (v := .bool false) (want_none) rfl (q_pickK false rfl c_2 rfl) ?_
      refine HO.val (v := .bool false) (want_none) rfl (q_assign rfl) ?_
      refine HO.nil (thenQ_normal (?_))
      refine HW.ret (?_)
      refine ⟨.inr rfl, .bool false, res1 rfl (rt rfl), ?_⟩
      replace hS : St F_1 (fr) h_3 := hS.perm2 [] 2 rfl rfl
      exact ⟨F_1, false, rfl, hK, hS, hL_a_On, hL_a_Off, hL_b_On, hL_b_Off, hM⟩
  · replace hM := hM.2 c_1
    refine HO.past (past_by rfl rfl c_1) rfl ?_
    refine HO.past (past_by rfl rfl c_1) rfl ?_
    refine HO.past (past_by rfl rfl c_1) rfl ?_
    refine HO.past (past_by rfl rfl c_1) rfl ?_
    refine HO.past (past_by rfl rfl c_1) rfl ?_
    refine HO.val (v := .bool false) (want_none) rfl (q_pickK false rfl c_1 rfl) ?_
    refine HO.val (v := .bool false) (want_none) rfl (q_move rfl) ?_
    refine HO.past (past_some rfl rfl) rfl ?_
    refine HO.past (past_some rfl rfl) rfl ?_
    refine HO.past (past_some rfl rfl) rfl ?_
    refine HO.past (past_some rfl rfl) rfl ?_
    refine HO.past (past_some rfl rfl) rfl ?_
    refine HO.val (v := .bool false) (want_none) rfl (q_pick rfl rfl) ?_
    refine HO.val (v := .bool false) (want_none) rfl (q_assign rfl) ?_
    refine HO.nil (thenQ_normal (?_))
    refine HW.ret (?_)
    refine ⟨.inr rfl, .bool false, res1 rfl (rt rfl), ?_⟩
    replace hS : St F (fr) h_2 := hS.perm2 [] 2 rfl rfl
    exact ⟨F, false, rfl, hK, hS, hL_a_On, hL_a_Off, hL_b_On, hL_b_Off, hM⟩

def ref15_SameStep_W (a_State_Exclude : Bool) (a_State_On : List T_api_Addr) (a_State_Off : List T_api_Addr) (a_Full : List T_api_Addr) (a_Rest : List T_api_Addr) (a_Group : Bool) (a_Ask : List T_api_Addr) (a_All : Bool) (b_State_Exclude : Bool) (b_State_On : List T_api_Addr) (b_State_Off : List T_api_Addr) (b_Full : List T_api_Addr) (b_Rest : List T_api_Addr) (b_Group : Bool) (b_Ask : List T_api_Addr) (b_All : Bool) (Q : Bool → Prop) : Prop :=
  ref15_Same_W a_State_Exclude a_State_On a_State_Off b_State_Exclude b_State_On b_State_Off (fun r_2 => (r_2 = true → ref11_Same_W a_Full b_Full (fun r_3 => (r_3 = true → ref11_Same_W a_Rest b_Rest (fun r_4 => (r_4 = true → ((a_Group == b_Group) = true → ref11_Same_W a_Ask b_Ask (fun r_5 => (r_5 = true → Q (a_All == b_All)) ∧ (r_5 = false → Q false))) ∧ ((a_Group == b_Group) = false → Q false)) ∧ (r_4 = false → Q false))) ∧ (r_3 = false → Q false))) ∧ (r_2 = false → Q false))
set_option maxHeartbeats 40000000 in
set_option maxRecDepth 100000 in
theorem ref15_SameStep_walk {F : Fz} {fr : List Ow} {h0 : Heap} (a_State_Exclude : Bool) (a_State_On : List T_api_Addr) (a_State_Off : List T_api_Addr) (a_Full : List T_api_Addr) (a_Rest : List T_api_Addr) (a_Group : Bool) (a_Ask : List T_api_Addr) (a_All : Bool) (b_State_Exclude : Bool) (b_State_On : List T_api_Addr) (b_State_Off : List T_api_Addr) (b_Full : List T_api_Addr) (b_Rest : List T_api_Addr) (b_Group : Bool) (b_Ask : List T_api_Addr) (b_All : Bool) (va_State_On : Value) (va_State_Off : Value) (va_Full : Value) (va_Rest : Value) (va_Ask : Value) (vb_State_On : Value) (vb_State_Off : Value) (vb_Full : Value) (vb_Rest : Value) (vb_Ask : Value) (hS : St F (fr) h0) (hL_a_State_On : SliceF F h0 17 e_api_Addr va_State_On a_State_On) (hL_a_State_Off : SliceF F h0 17 e_api_Addr va_State_Off a_State_Off) (hL_a_Full : SliceF F h0 17 e_api_Addr va_Full a_Full) (hL_a_Rest : SliceF F h0 17 e_api_Addr va_Rest a_Rest) (hL_a_Ask : SliceF F h0 17 e_api_Addr va_Ask a_Ask) (hL_b_State_On : SliceF F h0 17 e_api_Addr vb_State_On b_State_On) (hL_b_State_Off : SliceF F h0 17 e_api_Addr vb_State_Off b_State_Off) (hL_b_Full : SliceF F h0 17 e_api_Addr vb_Full b_Full) (hL_b_Rest : SliceF F h0 17 e_api_Addr vb_Rest b_Rest) (hL_b_Ask : SliceF F h0 17 e_api_Addr vb_Ask b_Ask) {Q : Bool → Prop} (hM : ref15_SameStep_W a_State_Exclude a_State_On a_State_Off a_Full a_Rest a_Group a_Ask a_All b_State_Exclude b_State_On b_State_Off b_Full b_Rest b_Group b_Ask b_All Q) :
    HC Try.prog 16 #[.agg #[.bool a_State_Exclude, va_State_On, va_State_Off, va_Full, va_Rest, .bool a_Group, va_Ask, .bool a_All], .agg #[.bool b_State_Exclude, vb_State_On, vb_State_Off, vb_Full, vb_Rest, .bool b_Group, vb_Ask, .bool b_All]] h0 fun u h' => ∃ (F' : Fz) (r_1 : Bool), u = .bool r_1 ∧ Kp F h0 F' h' ∧ St F' (fr) h' ∧ (SliceF F' h' 17 e_api_Addr va_State_On a_State_On) ∧ (SliceF F' h' 17 e_api_Addr va_State_Off a_State_Off) ∧ (SliceF F' h' 17 e_api_Addr va_Full a_Full) ∧ (SliceF F' h' 17 e_api_Addr va_Rest a_Rest) ∧ (SliceF F' h' 17 e_api_Addr va_Ask a_Ask) ∧ (SliceF F' h' 17 e_api_Addr vb_State_On b_State_On) ∧ (SliceF F' h' 17 e_api_Addr vb_State_Off b_State_Off) ∧ (SliceF F' h' 17 e_api_Addr vb_Full b_Full) ∧ (SliceF F' h' 17 e_api_Addr vb_Rest b_Rest) ∧ (SliceF F' h' 17 e_api_Addr vb_Ask b_Ask) ∧ Q r_1 := by
  unfold ref15_SameStep_W at hM
  have hK := Kp.refl F h0
  refine HC.of_HW (n := 45) Try.func16 rfl rfl (Nat.le_of_ble_eq_true rfl) ?_
  refine HW.seq ?_
  refine HW.region ?_
  refine HO.eff (want_none) rfl (st_box (c := #[.bool a_State_Exclude, va_State_On, va_State_Off, va_Full, va_Rest, .bool a_Group, va_Ask, .bool a_All]) (k' := 8) hS rfl rfl) ?_
  rintro _ h_1 ⟨b_1, rfl, hS, hk⟩
  replace hK := hK.trans hk
  replace hL_a_State_On := hL_a_State_On.kp hk
  replace hL_a_State_Off := hL_a_State_Off.kp hk
  replace hL_a_Full := hL_a_Full.kp hk
  replace hL_a_Rest := hL_a_Rest.kp hk
  replace hL_a_Ask := hL_a_Ask.kp hk
  replace hL_b_State_On := hL_b_State_On.kp hk
  replace hL_b_State_Off := hL_b_State_Off.kp hk
  replace hL_b_Full := hL_b_Full.kp hk
  replace hL_b_Rest := hL_b_Rest.kp hk
  replace hL_b_Ask := hL_b_Ask.kp hk
  refine HO.eff (want_none) rfl (st_box (c := #[.bool b_State_Exclude, vb_State_On, vb_State_Off, vb_Full, vb_Rest, .bool b_Group, vb_Ask, .bool b_All]) (k' := 8) hS rfl rfl) ?_
  rintro _ h_2 ⟨b_2, rfl, hS, hk⟩
  replace hK := hK.trans hk
  replace hL_a_State_On := hL_a_State_On.kp hk
  replace hL_a_State_Off := hL_a_State_Off.kp hk
  replace hL_a_Full := hL_a_Full.kp hk
  replace hL_a_Rest := hL_a_Rest.kp hk
  replace hL_a_Ask := hL_a_Ask.kp hk
  replace hL_b_State_On := hL_b_State_On.kp hk
  replace hL_b_State_Off := hL_b_State_Off.kp hk
  replace hL_b_Full := hL_b_Full.kp hk
  replace hL_b_Rest := hL_b_Rest.kp hk
  replace hL_b_Ask := hL_b_Ask.kp hk
  refine HO.val (v := .bool false) (want_none) rfl (q_assign rfl) ?_
  refine HO.nil (thenQ_normal (?_))
  refine HW.seq ?_
  refine HW.region ?_
  refine HO.val (v := .pointer (some ⟨b_1, 0, none⟩)) (want_none) rfl (q_fieldAddr fa_29_0 rfl rfl) ?_
  refine HO.val (v := .agg #[.bool a_State_Exclude, va_State_On, va_State_Off]) (want_none) rfl (q_loadAgg (cs := [.bool a_State_Exclude, va_State_On, va_State_Off]) ta_24 rfl rfl (Blk.cells (k := 3) (hS.box 1 rfl) rfl)) ?_
  refine HO.val (v := .pointer (some ⟨b_2, 0, none⟩)) (want_none) rfl (q_fieldAddr fa_29_0 rfl rfl) ?_
  refine HO.val (v := .agg #[.bool b_State_Exclude, vb_State_On, vb_State_Off]) (want_none) rfl (q_loadAgg (cs := [.bool b_State_Exclude, vb_State_On, vb_State_Off]) ta_24 rfl rfl (Blk.cells (k := 3) (hS.box 0 rfl) rfl)) ?_
  refine HO.call (want_none) rfl (ec en_21 rfl rfl) (ref15_Same_walk (fr := (Ow.box b_2 29 #[.bool b_State_Exclude, vb_State_On, vb_State_Off, vb_Full, vb_Rest, .bool b_Group, vb_Ask, .bool b_All] :: Ow.box b_1 29 #[.bool a_State_Exclude, va_State_On, va_State_Off, va_Full, va_Rest, .bool a_Group, va_Ask, .bool a_All] :: fr)) a_State_Exclude a_State_On a_State_Off b_State_Exclude b_State_On b_State_Off va_State_On va_State_Off vb_State_On vb_State_Off hS hL_a_State_On hL_a_State_Off hL_b_State_On hL_b_State_Off hM) ?_
  rintro _ h_3 ⟨F_1, r_2, rfl, hk, hS, _, _, _, _, hM⟩
  replace hK := hK.trans hk
  replace hL_a_State_On := hL_a_State_On.kp hk
  replace hL_a_State_Off := hL_a_State_Off.kp hk
  replace hL_a_Full := hL_a_Full.kp hk
  replace hL_a_Rest := hL_a_Rest.kp hk
  replace hL_a_Ask := hL_a_Ask.kp hk
  replace hL_b_State_On := hL_b_State_On.kp hk
  replace hL_b_State_Off := hL_b_State_Off.kp hk
  replace hL_b_Full := hL_b_Full.kp hk
  replace hL_b_Rest := hL_b_Rest.kp hk
  replace hL_b_Ask := hL_b_Ask.kp hk
  refine HO.val (v := .bool r_2) (want_none) rfl (q_move rfl) ?_
  rcases Bool.eq_false_or_eq_true r_2 with c_1 | c_1
  · replace hM := hM.1 c_1
    refine HO.val (v := .pointer (some ⟨b_1, 3, none⟩)) (want_by rfl rfl c_1) rfl (q_fieldAddr fa_29_1 rfl rfl) ?_
    refine HO.val (v := va_Full) (want_by rfl rfl c_1) rfl (q_load to_22 rfl (Blk.cell (hS.box 1 rfl) rfl)) ?_
    refine HO.val (v := .pointer (some ⟨b_2, 3, none⟩)) (want_by rfl rfl c_1) rfl (q_fieldAddr fa_29_1 rfl rfl) ?_
    refine HO.val (v := vb_Full) (want_by rfl rfl c_1) rfl (q_load to_22 rfl (Blk.cell (hS.box 0 rfl) rfl)) ?_
    refine HO.call (want_by rfl rfl c_1) rfl (ec en_35 rfl rfl) (ref11_Same_walk (fr := (Ow.box b_2 29 #[.bool b_State_Exclude, vb_State_On, vb_State_Off, vb_Full, vb_Rest, .bool b_Group, vb_Ask, .bool b_All] :: Ow.box b_1 29 #[.bool a_State_Exclude, va_State_On, va_State_Off, va_Full, va_Rest, .bool a_Group, va_Ask, .bool a_All] :: fr)) a_Full b_Full va_Full vb_Full hS hL_a_Full hL_b_Full hM) ?_
    rintro _ h_4 ⟨F_2, r_3, rfl, hk, hS, _, _, hM⟩
    replace hK := hK.trans hk
    replace hL_a_State_On := hL_a_State_On.kp hk
    replace hL_a_State_Off := hL_a_State_Off.kp hk
    replace hL_a_Full := hL_a_Full.kp hk
    replace hL_a_Rest := hL_a_Rest.kp hk
    replace hL_a_Ask := hL_a_Ask.kp hk
    replace hL_b_State_On := hL_b_State_On.kp hk
    replace hL_b_State_Off := hL_b_State_Off.kp hk
    replace hL_b_Full := hL_b_Full.kp hk
    replace hL_b_Rest := hL_b_Rest.kp hk
    replace hL_b_Ask := hL_b_Ask.kp hk
    refine HO.val (v := .bool r_3) (want_none) rfl (q_pickK true rfl c_1 rfl) ?_
    refine HO.val (v := .bool r_3) (want_none) rfl (q_move rfl) ?_
    rcases Bool.eq_false_or_eq_true r_3 with c_2 | c_2
    · replace hM := hM.1 c_2
      refine HO.val (v := .pointer (some ⟨b_1, 4, none⟩)) (want_by rfl rfl c_2) rfl (q_fieldAddr fa_29_2 rfl rfl) ?_
      refine HO.val (v := va_Rest) (want_by rfl rfl c_2) rfl (q_load to_22 rfl (Blk.cell (hS.box 1 rfl) rfl)) ?_
      refine HO.val (v := .pointer (some ⟨b_2, 4, none⟩)) (want_by rfl rfl c_2) rfl (q_fieldAddr fa_29_2 rfl rfl) ?_
      refine HO.val (v := vb_Rest) (want_by rfl rfl c_2) rfl (q_load to_22 rfl (Blk.cell (hS.box 0 rfl) rfl)) ?_
      refine HO.call (want_by rfl rfl c_2) rfl (ec en_35 rfl rfl) (ref11_Same_walk (fr := (Ow.box b_2 29 #[.bool b_State_Exclude, vb_State_On, vb_State_Off, vb_Full, vb_Rest, .bool b_Group, vb_Ask, .bool b_All] :: Ow.box b_1 29 #[.bool a_State_Exclude, va_State_On, va_State_Off, va_Full, va_Rest, .bool a_Group, va_Ask, .bool a_All] :: fr)) a_Rest b_Rest va_Rest vb_Rest hS hL_a_Rest hL_b_Rest hM) ?_
      rintro _ h_5 ⟨F_3, r_4, rfl, hk, hS, _, _, hM⟩
      replace hK := hK.trans hk
      replace hL_a_State_On := hL_a_State_On.kp hk
      replace hL_a_State_Off := hL_a_State_Off.kp hk
      replace hL_a_Full := hL_a_Full.kp hk
      replace hL_a_Rest := hL_a_Rest.kp hk
      replace hL_a_Ask := hL_a_Ask.kp hk
      replace hL_b_State_On := hL_b_State_On.kp hk
      replace hL_b_State_Off := hL_b_State_Off.kp hk
      replace hL_b_Full := hL_b_Full.kp hk
      replace hL_b_Rest := hL_b_Rest.kp hk
      replace hL_b_Ask := hL_b_Ask.kp hk
      refine HO.val (v := .bool r_4) (want_none) rfl (q_pickK true rfl c_2 rfl) ?_
      refine HO.val (v := .bool r_4) (want_none) rfl (q_move rfl) ?_
      rcases Bool.eq_false_or_eq_true r_4 with c_3 | c_3
      · replace hM := hM.1 c_3
        refine HO.val (v := .pointer (some ⟨b_1, 5, none⟩)) (want_by rfl rfl c_3) rfl (q_fieldAddr fa_29_3 rfl rfl) ?_
        refine HO.val (v := .bool a_Group) (want_by rfl rfl c_3) rfl (q_load to_4 rfl (Blk.cell (hS.box 1 rfl) rfl)) ?_
        refine HO.val (v := .pointer (some ⟨b_2, 5, none⟩)) (want_by rfl rfl c_3) rfl (q_fieldAddr fa_29_3 rfl rfl) ?_
        refine HO.val (v := .bool b_Group) (want_by rfl rfl c_3) rfl (q_load to_4 rfl (Blk.cell (hS.box 0 rfl) rfl)) ?_
        refine HO.val (v := .bool (a_Group == b_Group)) (want_by rfl rfl c_3) rfl (q_eqlB Try.underlying4 rfl rfl) ?_
        refine HO.val (v := .bool (a_Group == b_Group)) (want_none) rfl (q_pickK true rfl c_3 rfl) ?_
        refine HO.val (v := .bool (a_Group == b_Group)) (want_none) rfl (q_move rfl) ?_
        rcases Bool.eq_false_or_eq_true (a_Group == b_Group) with c_4 | c_4
        · replace hM := hM.1 c_4
          refine HO.val (v := .pointer (some ⟨b_1, 6, none⟩)) (want_by rfl rfl c_4) rfl (q_fieldAddr fa_29_4 rfl rfl) ?_
          refine HO.val (v := va_Ask) (want_by rfl rfl c_4) rfl (q_load to_22 rfl (Blk.cell (hS.box 1 rfl) rfl)) ?_
          refine HO.val (v := .pointer (some ⟨b_2, 6, none⟩)) (want_by rfl rfl c_4) rfl (q_fieldAddr fa_29_4 rfl rfl) ?_
          refine HO.val (v := vb_Ask) (want_by rfl rfl c_4) rfl (q_load to_22 rfl (Blk.cell (hS.box 0 rfl) rfl)) ?_
          refine HO.call (want_by rfl rfl c_4) rfl (ec en_35 rfl rfl) (ref11_Same_walk (fr := (Ow.box b_2 29 #[.bool b_State_Exclude, vb_State_On, vb_State_Off, vb_Full, vb_Rest, .bool b_Group, vb_Ask, .bool b_All] :: Ow.box b_1 29 #[.bool a_State_Exclude, va_State_On, va_State_Off, va_Full, va_Rest, .bool a_Group, va_Ask, .bool a_All] :: fr)) a_Ask b_Ask va_Ask vb_Ask hS hL_a_Ask hL_b_Ask hM) ?_
          rintro _ h_6 ⟨F_4, r_5, rfl, hk, hS, _, _, hM⟩
          replace hK := hK.trans hk
          replace hL_a_State_On := hL_a_State_On.kp hk
          replace hL_a_State_Off := hL_a_State_Off.kp hk
          replace hL_a_Full := hL_a_Full.kp hk
          replace hL_a_Rest := hL_a_Rest.kp hk
          replace hL_a_Ask := hL_a_Ask.kp hk
          replace hL_b_State_On := hL_b_State_On.kp hk
          replace hL_b_State_Off := hL_b_State_Off.kp hk
          replace hL_b_Full := hL_b_Full.kp hk
          replace hL_b_Rest := hL_b_Rest.kp hk
          replace hL_b_Ask := hL_b_Ask.kp hk
          refine HO.val (v := .bool r_5) (want_none) rfl (q_pickK true rfl c_4 rfl) ?_
          refine HO.val (v := .bool r_5) (want_none) rfl (q_move rfl) ?_
          rcases Bool.eq_false_or_eq_true r_5 with c_5 | c_5
          · replace hM := hM.1 c_5
            refine HO.val (v := .pointer (some ⟨b_1, 7, none⟩)) (want_by rfl rfl c_5) rfl (q_fieldAddr fa_29_5 rfl rfl) ?_
            refine HO.val (v := .bool a_All) (want_by rfl rfl c_5) rfl (q_load to_4 rfl (Blk.cell (hS.box 1 rfl) rfl)) ?_
            refine HO.val (v := .pointer (some ⟨b_2, 7, none⟩)) (want_by rfl rfl c_5) rfl (q_fieldAddr fa_29_5 rfl rfl) ?_
            refine HO.val (v := .bool b_All) (want_by rfl rfl c_5) rfl (q_load to_4 rfl (Blk.cell (hS.box 0 rfl) rfl)) ?_
            refine HO.val (v := .bool (a_All == b_All)) (want_by rfl rfl c_5) rfl (q_eqlB Try.underlying4 rfl rfl) ?_
            refine HO.val (v := .bool (a_All == b_All)) (want_none) rfl (q_pickK true rfl c_5 rfl) ?_
            refine HO.val (v := .bool (a_All == b_All)) (want_none) rfl (q_assign rfl) ?_
            refine HO.nil (thenQ_normal (?_))
            refine HW.ret (?_)
            refine ⟨.inr rfl, .bool (a_All == b_All), res1 rfl (rt rfl), ?_⟩
            replace hS : St F_4 (fr) h_6 := hS.perm2 [] 2 rfl rfl
            exact ⟨F_4, a_All == b_All, rfl, hK, hS, hL_a_State_On, hL_a_State_Off, hL_a_Full, hL_a_Rest, hL_a_Ask, hL_b_State_On, hL_b_State_Off, hL_b_Full, hL_b_Rest, hL_b_Ask, hM⟩
          · replace hM := hM.2 c_5
            refine HO.past (past_by rfl rfl c_5) rfl ?_
            refine HO.past (past_by rfl rfl c_5) rfl ?_
            refine HO.past (past_by rfl rfl c_5) rfl ?_
            refine HO.past (past_by rfl rfl c_5) rfl ?_
            refine HO.past (past_by rfl rfl c_5) rfl ?_
            refine HO.val (v := .bool false) (want_none) rfl (q_pickK false rfl c_5 rfl) ?_
            refine HO.val (v := .bool false) (want_none) rfl (q_assign rfl) ?_
            refine HO.nil (thenQ_normal (?_))
            refine HW.ret (?_)
            refine ⟨.inr rfl, .bool false, res1 rfl (rt rfl), ?_⟩
            replace hS : St F_4 (fr) h_6 := hS.perm2 [] 2 rfl rfl
            exact ⟨F_4, false, rfl, hK, hS, hL_a_State_On, hL_a_State_Off, hL_a_Full, hL_a_Rest, hL_a_Ask, hL_b_State_On, hL_b_State_Off, hL_b_Full, hL_b_Rest, hL_b_Ask, hM⟩
        · replace hM := hM.2 c_4
          refine HO.past (past_by rfl rfl c_4) rfl ?_
          refine HO.past (past_by rfl rfl c_4) rfl ?_
          refine HO.past (past_by rfl rfl c_4) rfl ?_
          refine HO.past (past_by rfl rfl c_4) rfl ?_
          refine HO.past (past_by rfl rfl c_4) rfl ?_
          refine HO.val (v := .bool false) (want_none) rfl (q_pickK false rfl c_4 rfl) ?_
          refine HO.val (v := .bool false) (want_none) rfl (q_move rfl) ?_
          refine HO.past (past_some rfl rfl) rfl ?_
          refine HO.past (past_some rfl rfl) rfl ?_
          refine HO.past (past_some rfl rfl) rfl ?_
          refine HO.past (past_some rfl rfl) rfl ?_
          refine HO.past (past_some rfl rfl) rfl ?_
          refine HO.val (v := .bool false) (want_none) rfl (q_pick rfl rfl) ?_
          refine HO.val (v := .bool false) (want_none) rfl (q_assign rfl) ?_
          refine HO.nil (thenQ_normal (?_))
          refine HW.ret (?_)
          refine ⟨.inr rfl, .bool false, res1 rfl (rt rfl), ?_⟩
          replace hS : St F_3 (fr) h_5 := hS.perm2 [] 2 rfl rfl
          exact ⟨F_3, false, rfl, hK, hS, hL_a_State_On, hL_a_State_Off, hL_a_Full, hL_a_Rest, hL_a_Ask, hL_b_State_On, hL_b_State_Off, hL_b_Full, hL_b_Rest, hL_b_Ask, hM⟩
      · replace hM := hM.2 c_3
        refine HO.past (past_by rfl rfl c_3) rfl ?_
        refine HO.past (past_by rfl rfl c_3) rfl ?_
        refine HO.past (past_by rfl rfl c_3) rfl ?_
        refine HO.past (past_by rfl rfl c_3) rfl ?_
        refine HO.past (past_by rfl rfl c_3) rfl ?_
        refine HO.val (v := .bool false) (want_none) rfl (q_pickK false rfl c_3 rfl) ?_
        refine HO.val (v := .bool false) (want_none) rfl (q_move rfl) ?_
        refine HO.past (past_some rfl rfl) rfl ?_
        refine HO.past (past_some rfl rfl) rfl ?_
        refine HO.past (past_some rfl rfl) rfl ?_
        refine HO.past (past_some rfl rfl) rfl ?_
        refine HO.past (past_some rfl rfl) rfl ?_
        refine HO.val (v := .bool false) (want_none) rfl (q_pick rfl rfl) ?_
        refine HO.val (v := .bool false) (want_none) rfl (q_move rfl) ?_
        refine HO.past (past_some rfl rfl) rfl ?_
        refine HO.past (past_some rfl rfl) rfl ?_
        refine HO.past (past_some rfl rfl) rfl ?_
        refine HO.past (past_some rfl rfl) rfl ?_
        refine HO.past (past_some rfl rfl) rfl ?_
        refine HO.val (v := .bool false) (want_none) rfl (q_pick rfl rfl) ?_
        refine HO.val (v := .bool false) (want_none) rfl (q_assign rfl) ?_
        refine HO.nil (thenQ_normal (?_))
        refine HW.ret (?_)
        refine ⟨.inr rfl, .bool false, res1 rfl (rt rfl), ?_⟩
        replace hS : St F_3 (fr) h_5 := hS.perm2 [] 2 rfl rfl
        exact ⟨F_3, false, rfl, hK, hS, hL_a_State_On, hL_a_State_Off, hL_a_Full, hL_a_Rest, hL_a_Ask, hL_b_State_On, hL_b_State_Off, hL_b_Full, hL_b_Rest, hL_b_Ask, hM⟩
    · replace hM := hM.2 c_2
      refine HO.past (past_by rfl rfl c_2) rfl ?_
      refine HO.past (past_by rfl rfl c_2) rfl ?_
      refine HO.past (past_by rfl rfl c_2) rfl ?_
      refine HO.past (past_by rfl rfl c_2) rfl ?_
      refine HO.past (past_by rfl rfl c_2) rfl ?_
      refine HO.val (v := .bool false) (want_none) rfl (q_pickK false rfl c_2 rfl) ?_
      refine HO.val (v := .bool false) (want_none) rfl (q_move rfl) ?_
      refine HO.past (past_some rfl rfl) rfl ?_
      refine HO.past (past_some rfl rfl) rfl ?_
      refine HO.past (past_some rfl rfl) rfl ?_
      refine HO.past (past_some rfl rfl) rfl ?_
      refine HO.past (past_some rfl rfl) rfl ?_
      refine HO.val (v := .bool false) (want_none) rfl (q_pick rfl rfl) ?_
      refine HO.val (v := .bool false) (want_none) rfl (q_move rfl) ?_
      refine HO.past (past_some rfl rfl) rfl ?_
      refine HO.past (past_some rfl rfl) rfl ?_
      refine HO.past (past_some rfl rfl) rfl ?_
      refine HO.past (past_some rfl rfl) rfl ?_
      refine HO.past (past_some rfl rfl) rfl ?_
      refine HO.val (v := .bool false) (want_none) rfl (q_pick rfl rfl) ?_
      refine HO.val (v := .bool false) (want_none) rfl (q_move rfl) ?_
      refine HO.past (past_some rfl rfl) rfl ?_
      refine HO.past (past_some rfl rfl) rfl ?_
      refine HO.past (past_some rfl rfl) rfl ?_
      refine HO.past (past_some rfl rfl) rfl ?_
      refine HO.past (past_some rfl rfl) rfl ?_
      refine HO.val (v := .bool false) (want_none) rfl (q_pick rfl rfl) ?_
      refine HO.val (v := .bool false) (want_none) rfl (q_assign rfl) ?_
      refine HO.nil (thenQ_normal (?_))
      refine HW.ret (?_)
      refine ⟨.inr rfl, .bool false, res1 rfl (rt rfl), ?_⟩
      replace hS : St F_2 (fr) h_4 := hS.perm2 [] 2 rfl rfl
      exact ⟨F_2, false, rfl, hK, hS, hL_a_State_On, hL_a_State_Off, hL_a_Full, hL_a_Rest, hL_a_Ask, hL_b_State_On, hL_b_State_Off, hL_b_Full, hL_b_Rest, hL_b_Ask, hM⟩
  · replace hM := hM.2 c_1
    refine HO.past (past_by rfl rfl c_1) rfl ?_
    refine HO.past (past_by rfl rfl c_1) rfl ?_
    refine HO.past (past_by rfl rfl c_1) rfl ?_
    refine HO.past (past_by rfl rfl c_1) rfl ?_
    refine HO.past (past_by rfl rfl c_1) rfl ?_
    refine HO.val (v := .bool false) (want_none) rfl (q_pickK false rfl c_1 rfl) ?_
    refine HO.val (v := .bool false) (want_none) rfl (q_move rfl) ?_
    refine HO.past (past_some rfl rfl) rfl ?_
    refine HO.past (past_some rfl rfl) rfl ?_
    refine HO.past (past_some rfl rfl) rfl ?_
    refine HO.past (past_some rfl rfl) rfl ?_
    refine HO.past (past_some rfl rfl) rfl ?_
    refine HO.val (v := .bool false) (want_none) rfl (q_pick rfl rfl) ?_
    refine HO.val (v := .bool false) (want_none) rfl (q_move rfl) ?_
    refine HO.past (past_some rfl rfl) rfl ?_
    refine HO.past (past_some rfl rfl) rfl ?_
    refine HO.past (past_some rfl rfl) rfl ?_
    refine HO.past (past_some rfl rfl) rfl ?_
    refine HO.past (past_some rfl rfl) rfl ?_
    refine HO.val (v := .bool false) (want_none) rfl (q_pick rfl rfl) ?_
    refine HO.val (v := .bool false) (want_none) rfl (q_move rfl) ?_
    refine HO.past (past_some rfl rfl) rfl ?_
    refine HO.past (past_some rfl rfl) rfl ?_
    refine HO.past (past_some rfl rfl) rfl ?_
    refine HO.past (past_some rfl rfl) rfl ?_
    refine HO.past (past_some rfl rfl) rfl ?_
    refine HO.val (v := .bool false) (want_none) rfl (q_pick rfl rfl) ?_
    refine HO.val (v := .bool false) (want_none) rfl (q_move rfl) ?_
    refine HO.past (past_some rfl rfl) rfl ?_
    refine HO.past (past_some rfl rfl) rfl ?_
    refine HO.past (past_some rfl rfl) rfl ?_
    refine HO.past (past_some rfl rfl) rfl ?_
    refine HO.past (past_some rfl rfl) rfl ?_
    refine HO.val (v := .bool false) (want_none) rfl (q_pick rfl rfl) ?_
    refine HO.val (v := .bool false) (want_none) rfl (q_assign rfl) ?_
    refine HO.nil (thenQ_normal (?_))
    refine HW.ret (?_)
    refine ⟨.inr rfl, .bool false, res1 rfl (rt rfl), ?_⟩
    replace hS : St F_1 (fr) h_3 := hS.perm2 [] 2 rfl rfl
    exact ⟨F_1, false, rfl, hK, hS, hL_a_State_On, hL_a_State_Off, hL_a_Full, hL_a_Rest, hL_a_Ask, hL_b_State_On, hL_b_State_Off, hL_b_Full, hL_b_Rest, hL_b_Ask, hM⟩

def srcs_Good_l1 (l : List T_api_Addr) (Q : Bool → Prop) (K_1 : Int → Prop) (n_1 : Int) : Prop :=
  (n_1 < (l.length : Int) → ((0 : Int) ≤ n_1 ∧ n_1 < (l.length : Int)) ∧ (addr_Good_W (gi l n_1) (fun r_2 => ((!r_2) = true → Q false) ∧ ((!r_2) = false → (0 < n_1 → (I64 (n_1 - 1)) ∧ (((0 : Int) ≤ n_1 - 1 ∧ n_1 - 1 < (l.length : Int)) ∧ (addr_Cmp_W (gi l (n_1 - 1)) (gi l n_1) (fun r_3 => (0 ≤ r_3 → Q false) ∧ (¬ (0 ≤ r_3) → (I64 (n_1 + 1)) ∧ (K_1 (n_1 + 1))))))) ∧ (¬ (0 < n_1) → (I64 (n_1 + 1)) ∧ (K_1 (n_1 + 1))))))) ∧ (¬ (n_1 < (l.length : Int)) → Q true)
def srcs_Good_W (l : List T_api_Addr) (Q : Bool → Prop) : Prop :=
  loopW (fun (K_1 : Int → Prop) (s : Int) => srcs_Good_l1 l Q K_1 s) 0
set_option maxHeartbeats 40000000 in
set_option maxRecDepth 100000 in
theorem srcs_Good_walk {F : Fz} {fr : List Ow} {h0 : Heap} (l : List T_api_Addr) (vl : Value) (hS : St F (fr) h0) (hL_l : SliceF F h0 17 e_api_Addr vl l) {Q : Bool → Prop} (hM : srcs_Good_W l Q) :
    HC Try.prog 36 #[vl] h0 fun u h' => ∃ (F' : Fz) (r_1 : Bool), u = .bool r_1 ∧ Kp F h0 F' h' ∧ St F' (fr) h' ∧ (SliceF F' h' 17 e_api_Addr vl l) ∧ Q r_1 := by
  unfold srcs_Good_W at hM
  have hK := Kp.refl F h0
  refine HC.of_HW (n := 30) Try.func36 rfl rfl (Nat.le_of_ble_eq_true rfl) ?_
  refine HW.seq ?_
  refine HW.region ?_
  refine HO.val (v := .bool false) (want_none) rfl (q_assign rfl) ?_
  refine HO.nil (thenQ_normal (?_))
  refine HW.seq ?_
  refine HW.seq ?_
  refine HW.region ?_
  refine HO.val (v := vl) (want_none) rfl (q_move rfl) ?_
  refine HO.val (v := .int .i64 (l.length : Int)) (want_none) rfl (q_len ts_22 (shp hL_l.is) rfl rfl) ?_
  refine HO.val (v := .int .i64 0) (want_none) rfl (q_move rfl) ?_
  refine HO.nil (thenQ_normal (?_))
  refine HW.block ?_
  obtain ⟨I_1, m_1, hI_1, hR_1⟩ := hM
  refine HW.loop (S := Int) (fun n_1 f h => ∃ (F' : Fz), f 0 = vl ∧ f 2 = .bool false ∧ f 5 = vl ∧ f 6 = .int .i64 (l.length : Int) ∧ f 7 = .int .i64 n_1 ∧ Kp F h0 F' h ∧ St F' (fr) h ∧ (SliceF F' h 17 e_api_Addr vl l) ∧ I_1 n_1) m_1 0 ⟨F, rfl, rfl, rfl, rfl, rfl, hK, hS, hL_l, hI_1⟩ ?_
  rintro n_1 f_1 h_1 ⟨F_1, e0, e2, e5, e6, e7, hK, hS, hL_l, hI0⟩
  obtain ⟨K_1, hKe_1⟩ : ∃ K : Int → Prop, K = fun n_1' => I_1 n_1' ∧ m_1 n_1' < m_1 n_1 := ⟨_, rfl⟩
  have hM : srcs_Good_l1 l Q K_1 n_1 := by rw [hKe_1]; exact hR_1 n_1 hI0
  unfold srcs_Good_l1 at hM
  refine HW.fr [(0, vl), (2, .bool false), (5, vl), (6, .int .i64 (l.length : Int)), (7, .int .i64 n_1)] ⟨e0, e2, e5, e6, e7, trivial⟩ ?_
  refine HW.seq ?_
  refine HW.region ?_
  refine HO.val (v := .bool (decide (n_1 < (l.length : Int)))) (want_none) rfl (q_lss rfl rfl) ?_
  refine HO.nil (thenQ_normal (?_))
  refine HW.seq ?_
  refine HW.cond (decide (n_1 < (l.length : Int))) rfl (fun c_1 => ?_) (fun c_1 => ?_)
  · replace hM := hM.1 (of_decide_eq_true c_1)
    refine HW.skip (thenQ_normal (?_))
    refine HW.seq ?_
    refine HW.block ?_
    refine HW.seq ?_
    refine HW.region ?_
    refine HO.val (v := .int .i64 n_1) (want_none) rfl (q_move rfl) ?_
    obtain ⟨ho_1, hM⟩ := hM
    refine HO.val (v := elemPtr 17 vl (n_1).toNat) (want_none) rfl (q_idx ts_22 hL_l.is rfl rfl ho_1) ?_
    refine HO.val (v := .agg (e_api_Addr (gi l n_1)).toArray) (want_none) rfl (q_ldElemAgg (cs := (e_api_Addr (gi l n_1))) ta_34 hL_l.is rfl ho_1 rfl) ?_
    refine HO.eff (want_none) rfl (st_alloc (c := (e_api_Addr (false, (default : Ba 16))).toArray) hS tz_34 rfl) ?_
    rintro _ h_2 ⟨b_1, rfl, hS, hk⟩
    replace hK := hK.trans hk
    replace hL_l := hL_l.kp hk
    refine HO.val (v := .int .i64 n_1) (want_none) rfl (q_assign rfl) ?_
    refine HO.sto (want_none) rfl (st_storeAgg (c' := (e_api_Addr (gi l n_1)).toArray) hS (i := 0) rfl ta_34 rfl rfl rfl (one_e_api_Addr _) (Nat.le_of_ble_eq_true rfl) rfl) ?_
    rintro h_3 ⟨hS, hk⟩
    replace hS : St F_1 (Ow.box b_1 34 (e_api_Addr (gi l n_1)).toArray :: fr) h_3 := hS
    replace hK := hK.trans hk
    replace hL_l := hL_l.kp hk
    refine HO.nil (thenQ_normal (?_))
    refine HW.seq ?_
    refine HW.regionA 17 mixed (fun h => (SliceIs h 17 e_api_Addr vl l) ∧ (Blk h b_1 (.cells (e_api_Addr (gi l n_1)).toArray 34 (0, 0)))) [] (by kernel_rfl) ?_
    refine HA.val (k := 0) (v := .agg (e_api_Addr (gi l n_1)).toArray) rfl rfl (by kernel_rfl) (by kernel_rfl) (want_none) rfl (fun _ ⟨hL_l, c301⟩ => q_loadAgg (cs := (e_api_Addr (gi l n_1))) ta_34 rfl rfl (Blk.cells (k := 17) c301 rfl)) ?_
    refine HA.one (k := 1) ⟨⟨hL_l.is, (hS.box 0 rfl)⟩, (Go.Wk.at_nil _ _)⟩ (by kernel_rfl) ?_
    refine HS.call rfl (want_none) rfl (ec en_48 rfl rfl) (addr_Good_walk (fr := (Ow.box b_1 34 (e_api_Addr (gi l n_1)).toArray :: fr)) (gi l n_1) hS hM) ?_
    rintro _ h_4 ⟨F_2, r_2, rfl, hk, hS, hM⟩
    replace hK := hK.trans hk
    replace hL_l := hL_l.kp hk
    refine HA.val (k := 2) (v := .bool (!r_2)) rfl rfl (by kernel_rfl) (by kernel_rfl) (want_none) rfl (fun _ ⟨hL_l, c301⟩ => q_not rfl) ?_
    refine HA.val (k := 3) (v := .bool (!r_2)) rfl rfl (by kernel_rfl) (by kernel_rfl) (want_none) rfl (fun _ ⟨hL_l, c301⟩ => q_move rfl) ?_
    rcases Bool.eq_false_or_eq_true (!r_2) with c_2 | c_2
    · replace hM := hM.1 c_2
      refine HA.past (k := 4) rfl rfl (by kernel_rfl) (by kernel_rfl) (past_by rfl rfl c_2) rfl ?_
      refine HA.past (k := 5) rfl rfl (by kernel_rfl) (by kernel_rfl) (past_by rfl rfl c_2) rfl ?_
      refine HA.past (k := 6) rfl rfl (by kernel_rfl) (by kernel_rfl) (past_by rfl rfl c_2) rfl ?_
      refine HA.past (k := 7) rfl rfl (by kernel_rfl) (by kernel_rfl) (past_undef rfl rfl) rfl ?_
      refine HA.past (k := 8) rfl rfl (by kernel_rfl) (by kernel_rfl) (past_undef rfl rfl) rfl ?_
      refine HA.past (k := 9) rfl rfl (by kernel_rfl) (by kernel_rfl) (past_undef rfl rfl) rfl ?_
      refine HA.past (k := 10) rfl rfl (by kernel_rfl) (by kernel_rfl) (past_undef rfl rfl) rfl ?_
      refine HA.past (k := 11) rfl rfl (by kernel_rfl) (by kernel_rfl) (past_undef rfl rfl) rfl ?_
      refine HA.past (k := 12) rfl rfl (by kernel_rfl) (by kernel_rfl) (past_undef rfl rfl) rfl ?_
      refine HA.one (k := 13) ⟨⟨hL_l.is, (hS.box 0 rfl)⟩, (Go.Wk.at_nil _ _)⟩ (by kernel_rfl) ?_
      refine HS.past rfl (past_undef rfl rfl) rfl ?_
      refine HA.past (k := 14) rfl rfl (by kernel_rfl) (by kernel_rfl) (past_undef rfl rfl) rfl ?_
      refine HA.past (k := 15) rfl rfl (by kernel_rfl) (by kernel_rfl) (past_by rfl rfl c_2) rfl ?_
      refine HA.val (k := 16) (v := .bool true) rfl rfl (by kernel_rfl) (by kernel_rfl) (want_none) rfl (fun _ ⟨hL_l, c301⟩ => q_pickK true rfl c_2 rfl) ?_
      refine HA.nil ⟨⟨hL_l.is, (hS.box 0 rfl)⟩, (Go.Wk.at_nil _ _)⟩ (by kernel_rfl) (thenQ_normal (?_))
      refine HW.condT rfl ?_
      refine HW.seq ?_
      refine HW.region ?_
      refine HO.val (v := .bool false) (want_none) rfl (q_assign rfl) ?_
      refine HO.nil (thenQ_normal (?_))
      refine HW.ret (blockQ_ret (thenQ_ret (thenQ_ret (blockQ_ret (thenQ_ret (?_))))))
      refine ⟨.inr rfl, .bool false, res1 rfl (rt rfl), ?_⟩
      replace hS : St F_2 (fr) h_4 := hS.perm2 [] 1 rfl rfl
      exact ⟨F_2, false, rfl, hK, hS, hL_l, hM⟩
    · replace hM := hM.2 c_2
      refine HA.val (k := 4) (v := .int .i64 n_1) rfl rfl (by kernel_rfl) (by kernel_rfl) (want_by rfl rfl c_2) rfl (fun _ ⟨hL_l, c301⟩ => q_move rfl) ?_
      refine HA.val (k := 5) (v := .bool (decide (0 < n_1))) rfl rfl (by kernel_rfl) (by kernel_rfl) (want_by rfl rfl c_2) rfl (fun _ ⟨hL_l, c301⟩ => q_gtr rfl rfl) ?_
      refine HA.val (k := 6) (v := .bool (decide (0 < n_1))) rfl rfl (by kernel_rfl) (by kernel_rfl) (want_by rfl rfl c_2) rfl (fun _ ⟨hL_l, c301⟩ => q_move rfl) ?_
      rcases Bool.eq_false_or_eq_true (decide (0 < n_1)) with c_3 | c_3
      · replace hM := hM.1 (of_decide_eq_true c_3)
        refine HA.val (k := 7) (v := vl) rfl rfl (by kernel_rfl) (by kernel_rfl) (want_by rfl rfl c_3) rfl (fun _ ⟨hL_l, c301⟩ => q_move rfl) ?_
        refine HA.val (k := 8) (v := .int .i64 n_1) rfl rfl (by kernel_rfl) (by kernel_rfl) (want_by rfl rfl c_3) rfl (fun _ ⟨hL_l, c301⟩ => q_move rfl) ?_
        obtain ⟨ho_2, hM⟩ := hM
        refine HA.val (k := 9) (v := .int .i64 (n_1 - 1)) rfl rfl (by kernel_rfl) (by kernel_rfl) (want_by rfl rfl c_3) rfl (fun _ ⟨hL_l, c301⟩ => q_subN _ rfl rfl rfl ho_2.1 ho_2.2) ?_
        obtain ⟨ho_3, hM⟩ := hM
        refine HA.val (k := 10) (v := elemPtr 17 vl (n_1 - 1).toNat) rfl rfl (by kernel_rfl) (by kernel_rfl) (want_by rfl rfl c_3) rfl (fun _ ⟨hL_l, c301⟩ => q_idx ts_22 hL_l rfl rfl ho_3) ?_
        refine HA.val (k := 11) (v := .agg (e_api_Addr (gi l (n_1 - 1))).toArray) rfl rfl (by kernel_rfl) (by kernel_rfl) (want_by rfl rfl c_3) rfl (fun _ ⟨hL_l, c301⟩ => q_ldElemAgg (cs := (e_api_Addr (gi l (n_1 - 1)))) ta_34 hL_l rfl ho_3 rfl) ?_
        refine HA.val (k := 12) (v := .agg (e_api_Addr (gi l n_1)).toArray) rfl rfl (by kernel_rfl) (by kernel_rfl) (want_by rfl rfl c_3) rfl (fun _ ⟨hL_l, c301⟩ => q_loadAgg (cs := (e_api_Addr (gi l n_1))) ta_34 rfl rfl (Blk.cells (k := 17) c301 rfl)) ?_
        refine HA.one (k := 13) ⟨⟨hL_l.is, (hS.box 0 rfl)⟩, (Go.Wk.at_nil _ _)⟩ (by kernel_rfl) ?_
        refine HS.call rfl (want_by rfl rfl c_3) rfl (ec en_50 rfl rfl) (addr_Cmp_walk (fr := (Ow.box b_1 34 (e_api_Addr (gi l n_1)).toArray :: fr)) (gi l (n_1 - 1)) (gi l n_1) hS hM) ?_
        rintro _ h_5 ⟨F_3, r_3, rfl, hk, hS, hM⟩
        replace hK := hK.trans hk
        replace hL_l := hL_l.kp hk
        refine HA.val (k := 14) (v := .bool (decide (0 ≤ r_3))) rfl rfl (by kernel_rfl) (by kernel_rfl) (want_by rfl rfl c_3) rfl (fun _ ⟨hL_l, c301⟩ => q_geq rfl rfl) ?_
        refine HA.val (k := 15) (v := .bool (decide (0 ≤ r_3))) rfl rfl (by kernel_rfl) (by kernel_rfl) (want_by rfl rfl c_2) rfl (fun _ ⟨hL_l, c301⟩ => q_pickK true rfl c_3 rfl) ?_
        refine HA.val (k := 16) (v := .bool (decide (0 ≤ r_3))) rfl rfl (by kernel_rfl) (by kernel_rfl) (want_none) rfl (fun _ ⟨hL_l, c301⟩ => q_pickK false rfl c_2 rfl) ?_
        refine HA.nil ⟨⟨hL_l.is, (hS.box 0 rfl)⟩, (Go.Wk.at_nil _ _)⟩ (by kernel_rfl) (thenQ_normal (?_))
        refine HW.cond (decide (0 ≤ r_3)) rfl (fun c_4 => ?_) (fun c_4 => ?_)
        · replace hM := hM.1 (of_decide_eq_true c_4)
          refine HW.seq ?_
          refine HW.region ?_
          refine HO.val (v := .bool false) (want_none) rfl (q_assign rfl) ?_
          refine HO.nil (thenQ_normal (?_))
          refine HW.ret (blockQ_ret (thenQ_ret (thenQ_ret (blockQ_ret (thenQ_ret (?_))))))
          refine ⟨.inr rfl, .bool false, res1 rfl (rt rfl), ?_⟩
          replace hS : St F_3 (fr) h_5 := hS.perm2 [] 1 rfl rfl
          exact ⟨F_3, false, rfl, hK, hS, hL_l, hM⟩
        · replace hM := hM.2 (of_decide_eq_false c_4)
          refine HW.skip (blockQ_normal (thenQ_normal (?_)))
          refine HW.region ?_
          obtain ⟨ho_4, hM⟩ := hM
          refine HO.val (v := .int .i64 (n_1 + 1)) (want_none) rfl (q_addN _ rfl rfl rfl ho_4.1 ho_4.2) ?_
          refine HO.val (v := .int .i64 (n_1 + 1)) (want_none) rfl (q_move rfl) ?_
          refine HO.nil (thenQ_normal (?_))
          replace hS : St F_3 (fr) h_5 := hS.perm2 [] 1 rfl rfl
          rw [hKe_1] at hM
          exact ⟨n_1 + 1, ⟨F_3, rfl, rfl, rfl, rfl, rfl, hK, hS, hL_l, hM.1⟩, hM.2⟩
      · replace hM := hM.2 (of_decide_eq_false c_3)
        refine HA.past (k := 7) rfl rfl (by kernel_rfl) (by kernel_rfl) (past_by rfl rfl c_3) rfl ?_
        refine HA.past (k := 8) rfl rfl (by kernel_rfl) (by kernel_rfl) (past_by rfl rfl c_3) rfl ?_
        refine HA.past (k := 9) rfl rfl (by kernel_rfl) (by kernel_rfl) (past_by rfl rfl c_3) rfl ?_
        refine HA.past (k := 10) rfl rfl (by kernel_rfl) (by kernel_rfl) (past_by rfl rfl c_3) rfl ?_
        refine HA.past (k := 11) rfl rfl (by kernel_rfl) (by kernel_rfl) (past_by rfl rfl c_3) rfl ?_
        refine HA.past (k := 12) rfl rfl (by kernel_rfl) (by kernel_rfl) (past_by rfl rfl c_3) rfl ?_
        refine HA.one (k := 13) ⟨⟨hL_l.is, (hS.box 0 rfl)⟩, (Go.Wk.at_nil _ _)⟩ (by kernel_rfl) ?_
        refine HS.past rfl (past_by rfl rfl c_3) rfl ?_
        refine HA.past (k := 14) rfl rfl (by kernel_rfl) (by kernel_rfl) (past_by rfl rfl c_3) rfl ?_
        refine HA.val (k := 15) (v := .bool false) rfl rfl (by kernel_rfl) (by kernel_rfl) (want_by rfl rfl c_2) rfl (fun _ ⟨hL_l, c301⟩ => q_pickK false rfl c_3 rfl) ?_
        refine HA.val (k := 16) (v := .bool false) rfl rfl (by kernel_rfl) (by kernel_rfl) (want_none) rfl (fun _ ⟨hL_l, c301⟩ => q_pickK false rfl c_2 rfl) ?_
        refine HA.nil ⟨⟨hL_l.is, (hS.box 0 rfl)⟩, (Go.Wk.at_nil _ _)⟩ (by kernel_rfl) (thenQ_normal (?_))
        refine HW.condF rfl ?_
        refine HW.skip (blockQ_normal (thenQ_normal (?_)))
        refine HW.region ?_
        obtain ⟨ho_5, hM⟩ := hM
        refine HO.val (v := .int .i64 (n_1 + 1)) (want_none) rfl (q_addN _ rfl rfl rfl ho_5.1 ho_5.2) ?_
        refine HO.val (v := .int .i64 (n_1 + 1)) (want_none) rfl (q_move rfl) ?_
        refine HO.nil (thenQ_normal (?_))
        replace hS : St F_2 (fr) h_4 := hS.perm2 [] 1 rfl rfl
        rw [hKe_1] at hM
        exact ⟨n_1 + 1, ⟨F_2, rfl, rfl, rfl, rfl, rfl, hK, hS, hL_l, hM.1⟩, hM.2⟩
  · replace hM := hM.2 (of_decide_eq_false c_1)
    refine HW.exit (thenQ_exit (thenQ_exit (blockQ_exit (thenQ_normal (?_)))))
    refine HW.seq ?_
    refine HW.region ?_
    refine HO.val (v := .bool true) (want_none) rfl (q_assign rfl) ?_
    refine HO.nil (thenQ_normal (?_))
    refine HW.ret (?_)
    refine ⟨.inr rfl, .bool true, res1 rfl (rt rfl), ?_⟩
    exact ⟨F_1, true, rfl, hK, hS, hL_l, hM⟩

def filter_Good_W (s_Exclude : Bool) (s_On : List T_api_Addr) (s_Off : List T_api_Addr) (Q : Bool → Prop) : Prop :=
  srcs_Good_W s_On (fun r_2 => (r_2 = true → srcs_Good_W s_Off (fun r_3 => (r_3 = true → srcs_And_W s_On s_Off (fun r_4 => ((r_4.length : Int) = 0 → (s_Exclude = true → Q true) ∧ (s_Exclude = false → Q (decide ((s_Off.length : Int) = 0)))) ∧ (¬ ((r_4.length : Int) = 0) → Q false))) ∧ (r_3 = false → Q false))) ∧ (r_2 = false → Q false))
set_option maxHeartbeats 40000000 in
set_option maxRecDepth 100000 in
theorem filter_Good_walk {F : Fz} {fr : List Ow} {h0 : Heap} (s_Exclude : Bool) (s_On : List T_api_Addr) (s_Off : List T_api_Addr) (vs_On : Value) (vs_Off : Value) (hS : St F (fr) h0) (hL_s_On : SliceF F h0 17 e_api_Addr vs_On s_On) (hL_s_Off : SliceF F h0 17 e_api_Addr vs_Off s_Off) {Q : Bool → Prop} (hM : filter_Good_W s_Exclude s_On s_Off Q) :
    HC Try.prog 18 #[.agg #[.bool s_Exclude, vs_On, vs_Off]] h0 fun u h' => ∃ (F' : Fz) (r_1 : Bool), u = .bool r_1 ∧ Kp F h0 F' h' ∧ St F' (fr) h' ∧ (SliceF F' h' 17 e_api_Addr vs_On s_On) ∧ (SliceF F' h' 17 e_api_Addr vs_Off s_Off) ∧ Q r_1 := by
  unfold filter_Good_W at hM
  have hK := Kp.refl F h0
  refine HC.of_HW (n := 30) Try.func18 rfl rfl (Nat.le_of_ble_eq_true rfl) ?_
  refine HW.seq ?_
  refine HW.region ?_
  refine HO.eff (want_none) rfl (st_box (c := #[.bool s_Exclude, vs_On, vs_Off]) (k' := 3) hS rfl rfl) ?_
  rintro _ h_1 ⟨b_1, rfl, hS, hk⟩
  replace hK := hK.trans hk
  replace hL_s_On := hL_s_On.kp hk
  replace hL_s_Off := hL_s_Off.kp hk
  refine HO.val (v := .bool false) (want_none) rfl (q_assign rfl) ?_
  refine HO.nil (thenQ_normal (?_))
  refine HW.seq ?_
  refine HW.region ?_
  refine HO.val (v := .pointer (some ⟨b_1, 1, none⟩)) (want_none) rfl (q_fieldAddr fa_24_1 rfl rfl) ?_
  refine HO.val (v := vs_On) (want_none) rfl (q_load to_22 rfl (Blk.cell (hS.box 0 rfl) rfl)) ?_
  refine HO.call (want_none) rfl (ec en_36 rfl rfl) (srcs_Good_walk (fr := (Ow.box b_1 24 #[.bool s_Exclude, vs_On, vs_Off] :: fr)) s_On vs_On hS hL_s_On hM) ?_
  rintro _ h_2 ⟨F_1, r_2, rfl, hk, hS, _, hM⟩
  replace hK := hK.trans hk
  replace hL_s_On := hL_s_On.kp hk
  replace hL_s_Off := hL_s_Off.kp hk
  refine HO.val (v := .bool r_2) (want_none) rfl (q_move rfl) ?_
  rcases Bool.eq_false_or_eq_true r_2 with c_1 | c_1
  · replace hM := hM.1 c_1
    refine HO.val (v := .pointer (some ⟨b_1, 2, none⟩)) (want_by rfl rfl c_1) rfl (q_fieldAddr fa_24_2 rfl rfl) ?_
    refine HO.val (v := vs_Off) (want_by rfl rfl c_1) rfl (q_load to_22 rfl (Blk.cell (hS.box 0 rfl) rfl)) ?_
    refine HO.call (want_by rfl rfl c_1) rfl (ec en_36 rfl rfl) (srcs_Good_walk (fr := (Ow.box b_1 24 #[.bool s_Exclude, vs_On, vs_Off] :: fr)) s_Off vs_Off hS hL_s_Off hM) ?_
    rintro _ h_3 ⟨F_2, r_3, rfl, hk, hS, _, hM⟩
    replace hK := hK.trans hk
    replace hL_s_On := hL_s_On.kp hk
    replace hL_s_Off := hL_s_Off.kp hk
    refine HO.val (v := .bool r_3) (want_none) rfl (q_pickK true rfl c_1 rfl) ?_
    refine HO.val (v := .bool r_3) (want_none) rfl (q_move rfl) ?_
    rcases Bool.eq_false_or_eq_true r_3 with c_2 | c_2
    · replace hM := hM.1 c_2
      refine HO.val (v := .pointer (some ⟨b_1, 1, none⟩)) (want_by rfl rfl c_2) rfl (q_fieldAddr fa_24_1 rfl rfl) ?_
      refine HO.val (v := vs_On) (want_by rfl rfl c_2) rfl (q_load to_22 rfl (Blk.cell (hS.box 0 rfl) rfl)) ?_
      refine HO.val (v := .pointer (some ⟨b_1, 2, none⟩)) (want_by rfl rfl c_2) rfl (q_fieldAddr fa_24_2 rfl rfl) ?_
      refine HO.val (v := vs_Off) (want_by rfl rfl c_2) rfl (q_load to_22 rfl (Blk.cell (hS.box 0 rfl) rfl)) ?_
      refine HO.call (want_by rfl rfl c_2) rfl (ec en_37 rfl rfl) (srcs_And_walk (fr := (Ow.box b_1 24 #[.bool s_Exclude, vs_On, vs_Off] :: fr)) s_On s_Off vs_On vs_Off hS hL_s_On hL_s_Off hM) ?_
      rintro vr_1 h_4 ⟨F_3, r_4, _, rfl, hk, hS, _, _, hM⟩
      replace hK := hK.trans hk
      replace hL_s_On := hL_s_On.kp hk
      replace hL_s_Off := hL_s_Off.kp hk
      refine HO.val (v := .int .i64 (r_4.length : Int)) (want_by rfl rfl c_2) rfl (q_len ts_22 (shp (hS.own 0 rfl).slice) rfl rfl) ?_
      refine HO.val (v := .bool (decide ((r_4.length : Int) = 0))) (want_by rfl rfl c_2) rfl (q_eql rfl rfl) ?_
      refine HO.val (v := .bool (decide ((r_4.length : Int) = 0))) (want_none) rfl (q_pickK true rfl c_2 rfl) ?_
      refine HO.val (v := .bool (decide ((r_4.length : Int) = 0))) (want_none) rfl (q_move rfl) ?_
      rcases Bool.eq_false_or_eq_true (decide ((r_4.length : Int) = 0)) with c_3 | c_3
      · replace hM := hM.1 (of_decide_eq_true c_3)
        refine HO.val (v := .pointer (some ⟨b_1, 0, none⟩)) (want_by rfl rfl c_3) rfl (q_fieldAddr fa_24_0 rfl rfl) ?_
        refine HO.val (v := .bool s_Exclude) (want_by rfl rfl c_3) rfl (q_load to_4 rfl (Blk.cell (hS.box 1 rfl) rfl)) ?_
        refine HO.val (v := .bool s_Exclude) (want_by rfl rfl c_3) rfl (q_move rfl) ?_
        rcases Bool.eq_false_or_eq_true s_Exclude with c_4 | c_4
        · replace hM := hM.1 c_4
          refine HO.past (past_by rfl rfl c_4) rfl ?_
          refine HO.past (past_by rfl rfl c_4) rfl ?_
          refine HO.past (past_by rfl rfl c_4) rfl ?_
          refine HO.past (past_by rfl rfl c_4) rfl ?_
          refine HO.val (v := .bool true) (want_by rfl rfl c_3) rfl (q_pickK true rfl c_4 rfl) ?_
          refine HO.val (v := .bool true) (want_none) rfl (q_pickK true rfl c_3 rfl) ?_
          refine HO.val (v := .bool true) (want_none) rfl (q_assign rfl) ?_
          refine HO.nil (thenQ_normal (?_))
          refine HW.ret (?_)
          refine ⟨.inr rfl, .bool true, res1 rfl (rt rfl), ?_⟩
          replace hS : St F_3 (fr) h_4 := hS.perm2 [] 2 rfl rfl
          exact ⟨F_3, true, rfl, hK, hS, hL_s_On, hL_s_Off, hM⟩
        · replace hM := hM.2 c_4
          refine HO.val (v := .pointer (some ⟨b_1, 2, none⟩)) (want_by rfl rfl c_4) rfl (q_fieldAddr fa_24_2 rfl rfl) ?_
          refine HO.val (v := vs_Off) (want_by rfl rfl c_4) rfl (q_load to_22 rfl (Blk.cell (hS.box 1 rfl) rfl)) ?_
          refine HO.val (v := .int .i64 (s_Off.length : Int)) (want_by rfl rfl c_4) rfl (q_len ts_22 (shp hL_s_Off.is) rfl rfl) ?_
          refine HO.val (v := .bool (decide ((s_Off.length : Int) = 0))) (want_by rfl rfl c_4) rfl (q_eql rfl rfl) ?_
          refine HO.val (v := .bool (decide ((s_Off.length : Int) = 0))) (want_by rfl rfl c_3) rfl (q_pickK false rfl c_4 rfl) ?_
          refine HO.val (v := .bool (decide ((s_Off.length : Int) = 0))) (want_none) rfl (q_pickK true rfl c_3 rfl) ?_
          refine HO.val (v := .bool (decide ((s_Off.length : Int) = 0))) (want_none) rfl (q_assign rfl) ?_
          refine HO.nil (thenQ_normal (?_))
          refine HW.ret (?_)
          refine ⟨.inr rfl, .bool (decide ((s_Off.length : Int) = 0)), res1 rfl (rt rfl), ?_⟩
          replace hS : St F_3 (fr) h_4 := hS.perm2 [] 2 rfl rfl
          exact ⟨F_3, decide ((s_Off.length : Int) = 0), rfl, hK, hS, hL_s_On, hL_s_Off, hM⟩
      · replace hM := hM.2 (of_decide_eq_false c_3)
        refine HO.past (past_by rfl rfl c_3) rfl ?_
        refine HO.past (past_by rfl rfl c_3) rfl ?_
        refine HO.past (past_by rfl rfl c_3) rfl ?_
        refine HO.past (past_undef rfl rfl) rfl ?_
        refine HO.past (past_undef rfl rfl) rfl ?_
        refine HO.past (past_undef rfl rfl) rfl ?_
        refine HO.past (past_undef rfl rfl) rfl ?_
        refine HO.past (past_by rfl rfl c_3) rfl ?_
        refine HO.val (v := .bool false) (want_none) rfl (q_pickK false rfl c_3 rfl) ?_
        refine HO.val (v := .bool false) (want_none) rfl (q_assign rfl) ?_
        refine HO.nil (thenQ_normal (?_))
        refine HW.ret (?_)
        refine ⟨.inr rfl, .bool false, res1 rfl (rt rfl), ?_⟩
        replace hS : St F_3 (fr) h_4 := hS.perm2 [] 2 rfl rfl
        exact ⟨F_3, false, rfl, hK, hS, hL_s_On, hL_s_Off, hM⟩
    · replace hM := hM.2 c_2
      refine HO.past (past_by rfl rfl c_2) rfl ?_
      refine HO.past (past_by rfl rfl c_2) rfl ?_
      refine HO.past (past_by rfl rfl c_2) rfl ?_
      refine HO.past (past_by rfl rfl c_2) rfl ?_
      refine HO.past (past_by rfl rfl c_2) rfl ?_
      refine HO.past (past_by rfl rfl c_2) rfl ?_
      refine HO.past (past_by rfl rfl c_2) rfl ?_
      refine HO.val (v := .bool false) (want_none) rfl (q_pickK false rfl c_2 rfl) ?_
      refine HO.val (v := .bool false) (want_none) rfl (q_move rfl) ?_
      refine HO.past (past_some rfl rfl) rfl ?_
      refine HO.past (past_some rfl rfl) rfl ?_
      refine HO.past (past_some rfl rfl) rfl ?_
      refine HO.past (past_undef rfl rfl) rfl ?_
      refine HO.past (past_undef rfl rfl) rfl ?_
      refine HO.past (past_undef rfl rfl) rfl ?_
      refine HO.past (past_undef rfl rfl) rfl ?_
      refine HO.past (past_some rfl rfl) rfl ?_
      refine HO.val (v := .bool false) (want_none) rfl (q_pick rfl rfl) ?_
      refine HO.val (v := .bool false) (want_none) rfl (q_assign rfl) ?_
      refine HO.nil (thenQ_normal (?_))
      refine HW.ret (?_)
      refine ⟨.inr rfl, .bool false, res1 rfl (rt rfl), ?_⟩
      replace hS : St F_2 (fr) h_3 := hS.perm2 [] 1 rfl rfl
      exact ⟨F_2, false, rfl, hK, hS, hL_s_On, hL_s_Off, hM⟩
  · replace hM := hM.2 c_1
    refine HO.past (past_by rfl rfl c_1) rfl ?_
    refine HO.past (past_by rfl rfl c_1) rfl ?_
    refine HO.past (past_by rfl rfl c_1) rfl ?_
    refine HO.val (v := .bool false) (want_none) rfl (q_pickK false rfl c_1 rfl) ?_
    refine HO.val (v := .bool false) (want_none) rfl (q_move rfl) ?_
    refine HO.past (past_some rfl rfl) rfl ?_
    refine HO.past (past_some rfl rfl) rfl ?_
    refine HO.past (past_some rfl rfl) rfl ?_
    refine HO.past (past_some rfl rfl) rfl ?_
    refine HO.past (past_some rfl rfl) rfl ?_
    refine HO.past (past_some rfl rfl) rfl ?_
    refine HO.past (past_some rfl rfl) rfl ?_
    refine HO.val (v := .bool false) (want_none) rfl (q_pick rfl rfl) ?_
    refine HO.val (v := .bool false) (want_none) rfl (q_move rfl) ?_
    refine HO.past (past_some rfl rfl) rfl ?_
    refine HO.past (past_some rfl rfl) rfl ?_
    refine HO.past (past_some rfl rfl) rfl ?_
    refine HO.past (past_undef rfl rfl) rfl ?_
    refine HO.past (past_undef rfl rfl) rfl ?_
    refine HO.past (past_undef rfl rfl) rfl ?_
    refine HO.past (past_undef rfl rfl) rfl ?_
    refine HO.past (past_some rfl rfl) rfl ?_
    refine HO.val (v := .bool false) (want_none) rfl (q_pick rfl rfl) ?_
    refine HO.val (v := .bool false) (want_none) rfl (q_assign rfl) ?_
    refine HO.nil (thenQ_normal (?_))
    refine HW.ret (?_)
    refine ⟨.inr rfl, .bool false, res1 rfl (rt rfl), ?_⟩
    replace hS : St F_1 (fr) h_2 := hS.perm2 [] 1 rfl rfl
    exact ⟨F_1, false, rfl, hK, hS, hL_s_On, hL_s_Off, hM⟩

def law15_FilterApplies_W (s_Exclude : Bool) (s_On : List T_api_Addr) (s_Off : List T_api_Addr) (kind : Int) (l : List T_api_Addr) (Q : Bool → Prop) : Prop :=
  law15_Few_W s_Exclude s_On s_Off (fun r_0_1 r_1_1 r_2_1 => law08_Addrs_W l 6 (fun r_2 => law15_Few_W r_0_1 r_1_1 r_2_1 (fun r_0_2 r_1_2 r_2_2 => law08_Addrs_W r_2 6 (fun r_3 => filter_Apply_W r_0_2 r_1_2 r_2_2 kind r_3 (fun r_0_3 r_1_3 r_2_3 r_3_1 r_4_1 r_5_1 r_6_1 r_7_1 => ref11_Of_W r_2 (fun r_4 => ref15_Apply_W r_0_1 r_1_1 r_2_1 kind r_4 (fun r_0_4 r_1_4 r_2_4 r_3_2 r_4_2 r_5_2 r_6_2 r_7_2 => ref15_SameStep_W r_0_3 r_1_3 r_2_3 r_3_1 r_4_1 r_5_1 r_6_1 r_7_1 r_0_4 r_1_4 r_2_4 r_3_2 r_4_2 r_5_2 r_6_2 r_7_2 (fun r_5 => (r_5 = true → filter_Good_W r_0_3 r_1_3 r_2_3 (fun r_6 => (r_6 = true → law15_lives_W  (fun r_7 => Q r_7)) ∧ (r_6 = false → Q false))) ∧ (r_5 = false → Q false)))))))))
set_option maxHeartbeats 40000000 in
set_option maxRecDepth 100000 in
theorem law15_FilterApplies_walk {F : Fz} {fr : List Ow} {h0 : Heap} (s_Exclude : Bool) (s_On : List T_api_Addr) (s_Off : List T_api_Addr) (kind : Int) (l : List T_api_Addr) (vs_On : Value) (vs_Off : Value) (vl : Value) (hS : St F (fr) h0) (hL_s_On : SliceF F h0 17 e_api_Addr vs_On s_On) (hL_s_Off : SliceF F h0 17 e_api_Addr vs_Off s_Off) (hL_l : SliceF F h0 17 e_api_Addr vl l) {Q : Bool → Prop} (hM : law15_FilterApplies_W s_Exclude s_On s_Off kind l Q) :
    HC Try.prog 4 #[.agg #[.bool s_Exclude, vs_On, vs_Off], .int .i64 kind, vl] h0 fun u h' => ∃ (F' : Fz) (r_1 : Bool), u = .bool r_1 ∧ Kp F h0 F' h' ∧ St F' (fr) h' ∧ (SliceF F' h' 17 e_api_Addr vs_On s_On) ∧ (SliceF F' h' 17 e_api_Addr vs_Off s_Off) ∧ (SliceF F' h' 17 e_api_Addr vl l) ∧ Q r_1 := by
  unfold law15_FilterApplies_W at hM
  have hK := Kp.refl F h0
  refine HC.of_HW (n := 33) Try.func4 rfl rfl (Nat.le_of_ble_eq_true rfl) ?_
  refine HW.seq ?_
  refine HW.region ?_
  refine HO.eff (want_none) rfl (st_box (c := #[.bool s_Exclude, vs_On, vs_Off]) (k' := 3) hS rfl rfl) ?_
  rintro _ h_1 ⟨b_1, rfl, hS, hk⟩
  replace hK := hK.trans hk
  replace hL_s_On := hL_s_On.kp hk
  replace hL_s_Off := hL_s_Off.kp hk
  replace hL_l := hL_l.kp hk
  refine HO.val (v := .bool false) (want_none) rfl (q_assign rfl) ?_
  refine HO.nil (thenQ_normal (?_))
  refine HW.seq ?_
  refine HW.region ?_
  refine HO.val (v := .agg #[.bool s_Exclude, vs_On, vs_Off]) (want_none) rfl (q_loadAgg (cs := [.bool s_Exclude, vs_On, vs_Off]) ta_24 rfl rfl (Blk.cells (k := 3) (hS.box 0 rfl) rfl)) ?_
  refine HO.call (want_none) rfl (ec en_7 rfl rfl) (law15_Few_walk (fr := (Ow.box b_1 24 #[.bool s_Exclude, vs_On, vs_Off] :: fr)) s_Exclude s_On s_Off vs_On vs_Off hS hL_s_On hL_s_Off hM) ?_
  rintro _ h_2 ⟨F_1, r_0_1, r_1_1, r_2_1, vr_1_1, vr_2_1, rfl, hk, hS, _, _, hL_1, hM⟩
  replace hK := hK.trans hk
  replace hL_s_On := hL_s_On.kp hk
  replace hL_s_Off := hL_s_Off.kp hk
  replace hL_l := hL_l.kp hk
  refine HO.val (v := vl) (want_none) rfl (q_move rfl) ?_
  refine HO.call (want_none) rfl (ec en_9 rfl rfl) (law08_Addrs_walk (fr := (Ow.own 34 17 e_api_Addr vr_2_1 r_2_1 :: Ow.box b_1 24 #[.bool s_Exclude, vs_On, vs_Off] :: fr)) l 6 vl hS hL_l hM) ?_
  rintro vr_1 h_3 ⟨F_2, r_2, _, rfl, hk, hS, _, hM⟩
  replace hK := hK.trans hk
  replace hL_s_On := hL_s_On.kp hk
  replace hL_s_Off := hL_s_Off.kp hk
  replace hL_l := hL_l.kp hk
  replace hL_1 := hL_1.kp hk
  refine HO.sto (want_none) rfl (st_storeAgg (c' := #[.bool r_0_1, vr_1_1, vr_2_1]) hS (i := 2) rfl ta_24 rfl rfl rfl (List.forall_mem_cons.2 ⟨rfl, (List.forall_mem_cons.2 ⟨(shp hL_1.is).one, (List.forall_mem_cons.2 ⟨(shp (hS.own 1 rfl).slice).one, (fun _ h => by cases h)⟩)⟩)⟩) (Nat.le_of_ble_eq_true rfl) rfl) ?_
  rintro h_4 ⟨hS, hk⟩
  replace hS : St F_2 (Ow.own 34 17 e_api_Addr vr_1 r_2 :: Ow.own 34 17 e_api_Addr vr_2_1 r_2_1 :: Ow.box b_1 24 #[.bool r_0_1, vr_1_1, vr_2_1] :: fr) h_4 := hS
  replace hK := hK.trans hk
  replace hL_s_On := hL_s_On.kp hk
  replace hL_s_Off := hL_s_Off.kp hk
  replace hL_l := hL_l.kp hk
  replace hL_1 := hL_1.kp hk
  refine HO.val (v := vr_1) (want_none) rfl (q_assign rfl) ?_
  refine HO.nil (thenQ_normal (?_))
  refine HW.seq ?_
  refine HW.region ?_
  refine HO.val (v := .agg #[.bool r_0_1, vr_1_1, vr_2_1]) (want_none) rfl (q_loadAgg (cs := [.bool r_0_1, vr_1_1, vr_2_1]) ta_24 rfl rfl (Blk.cells (k := 3) (hS.box 2 rfl) rfl)) ?_
  replace hS : St F_2 (Ow.own 34 17 e_api_Addr vr_2_1 r_2_1 :: Ow.own 34 17 e_api_Addr vr_1 r_2 :: Ow.box b_1 24 #[.bool r_0_1, vr_1_1, vr_2_1] :: fr) h_4 := hS.perm2 [1, 0, 2] 3 rfl rfl
  obtain ⟨F_3, hS, hk, hL_2⟩ := hS.freezeOwn
  replace hK := hK.trans hk
  replace hL_s_On := hL_s_On.kp hk
  replace hL_s_Off := hL_s_Off.kp hk
  replace hL_l := hL_l.kp hk
  replace hL_1 := hL_1.kp hk
  refine HO.call (want_none) rfl (ec en_7 rfl rfl) (law15_Few_walk (fr := (Ow.own 34 17 e_api_Addr vr_1 r_2 :: Ow.box b_1 24 #[.bool r_0_1, vr_1_1, vr_2_1] :: fr)) r_0_1 r_1_1 r_2_1 vr_1_1 vr_2_1 hS hL_1 hL_2 hM) ?_
  rintro _ h_5 ⟨F_4, r_0_2, r_1_2, r_2_2, vr_1_2, vr_2_2, rfl, hk, hS, _, _, hL_3, hM⟩
  replace hK := hK.trans hk
  replace hL_s_On := hL_s_On.kp hk
  replace hL_s_Off := hL_s_Off.kp hk
  replace hL_l := hL_l.kp hk
  replace hL_1 := hL_1.kp hk
  replace hL_2 := hL_2.kp hk
  refine HO.val (v := .int .i64 kind) (want_none) rfl (q_move rfl) ?_
  refine HO.val (v := vr_1) (want_none) rfl (q_move rfl) ?_
  replace hS : St F_4 (Ow.own 34 17 e_api_Addr vr_1 r_2 :: Ow.own 34 17 e_api_Addr vr_2_2 r_2_2 :: Ow.box b_1 24 #[.bool r_0_1, vr_1_1, vr_2_1] :: fr) h_5 := hS.perm2 [1, 0, 2] 3 rfl rfl
  have hZ_1 := hS
  have hkz_1 := (hS.freeze).2
  replace hS := hS.freeze.1
  have hL_4 : SliceF (fun b => F_4 b ∨ (Ow.own 34 17 e_api_Addr vr_1 r_2).foot b) h_5 17 e_api_Addr vr_1 r_2 := ⟨(hZ_1.own 0 rfl).slice, fun _ b hb => .inr hb⟩
  refine HO.call (want_none) rfl (ec en_9 rfl rfl) (law08_Addrs_walk (fr := (Ow.own 34 17 e_api_Addr vr_2_2 r_2_2 :: Ow.box b_1 24 #[.bool r_0_1, vr_1_1, vr_2_1] :: fr)) r_2 6 vr_1 hS hL_4 hM) ?_
  rintro vr_2 h_6 ⟨F_5, r_3, _, rfl, hk, hS, _, hM⟩
  obtain ⟨hS, hk⟩ := hZ_1.back hk hS
  generalize (fun b => F_5 b ∧ ¬ (Ow.own 34 17 e_api_Addr vr_1 r_2).foot b) = F_6 at hS hk
  replace hK := hK.trans hk
  replace hL_s_On := hL_s_On.kp hk
  replace hL_s_Off := hL_s_Off.kp hk
  replace hL_l := hL_l.kp hk
  replace hL_1 := hL_1.kp hk
  replace hL_2 := hL_2.kp hk
  replace hL_3 := hL_3.kp hk
  replace hS : St F_6 (Ow.own 34 17 e_api_Addr vr_2_2 r_2_2 :: Ow.own 34 17 e_api_Addr vr_1 r_2 :: Ow.own 34 17 e_api_Addr vr_2 r_3 :: Ow.box b_1 24 #[.bool r_0_1, vr_1_1, vr_2_1] :: fr) h_6 := hS.perm2 [2, 0, 1, 3] 4 rfl rfl
  obtain ⟨F_7, hS, hk, hL_5⟩ := hS.freezeOwn
  replace hK := hK.trans hk
  replace hL_s_On := hL_s_On.kp hk
  replace hL_s_Off := hL_s_Off.kp hk
  replace hL_l := hL_l.kp hk
  replace hL_1 := hL_1.kp hk
  replace hL_2 := hL_2.kp hk
  replace hL_3 := hL_3.kp hk
  replace hS : St F_7 (Ow.own 34 17 e_api_Addr vr_2 r_3 :: Ow.own 34 17 e_api_Addr vr_1 r_2 :: Ow.box b_1 24 #[.bool r_0_1, vr_1_1, vr_2_1] :: fr) h_6 := hS.perm2 [1, 0, 2] 3 rfl rfl
  obtain ⟨F_8, hS, hk, hL_6⟩ := hS.freezeOwn
  replace hK := hK.trans hk
  replace hL_s_On := hL_s_On.kp hk
  replace hL_s_Off := hL_s_Off.kp hk
  replace hL_l := hL_l.kp hk
  replace hL_1 := hL_1.kp hk
  replace hL_2 := hL_2.kp hk
  replace hL_3 := hL_3.kp hk
  replace hL_5 := hL_5.kp hk
  refine HO.call (want_none) rfl (ec en_10 rfl rfl) (filter_Apply_walk (fr := (Ow.own 34 17 e_api_Addr vr_1 r_2 :: Ow.box b_1 24 #[.bool r_0_1, vr_1_1, vr_2_1] :: fr)) r_0_2 r_1_2 r_2_2 kind r_3 vr_1_2 vr_2_2 vr_2 hS hL_3 hL_5 hL_6 hM) ?_
  rintro _ h_7 ⟨F_9, r_0_3, r_1_3, r_2_3, r_3_1, r_4_1, r_5_1, r_6_1, r_7_1, vr_1_3, vr_2_3, vr_3_1, vr_4_1, vr_6_1, rfl, hk, hS, _, _, _, hL_7, hM⟩
  replace hK := hK.trans hk
  replace hL_s_On := hL_s_On.kp hk
  replace hL_s_Off := hL_s_Off.kp hk
  replace hL_l := hL_l.kp hk
  replace hL_1 := hL_1.kp hk
  replace hL_2 := hL_2.kp hk
  replace hL_3 := hL_3.kp hk
  replace hL_5 := hL_5.kp hk
  replace hL_6 := hL_6.kp hk
  refine HO.eff (want_none) rfl (st_alloc (c := #[.bool false, .slice none 0 0, .slice none 0 0, .slice none 0 0, .slice none 0 0, .bool false, .slice none 0 0, .bool false]) hS tz_29 rfl) ?_
  rintro _ h_8 ⟨b_2, rfl, hS, hk⟩
  replace hK := hK.trans hk
  replace hL_s_On := hL_s_On.kp hk
  replace hL_s_Off := hL_s_Off.kp hk
  replace hL_l := hL_l.kp hk
  replace hL_1 := hL_1.kp hk
  replace hL_2 := hL_2.kp hk
  replace hL_3 := hL_3.kp hk
  replace hL_5 := hL_5.kp hk
  replace hL_6 := hL_6.kp hk
  replace hL_7 := hL_7.kp hk
  refine HO.sto (want_none) rfl (st_storeAgg (c' := #[.bool r_0_3, vr_1_3, vr_2_3, vr_3_1, vr_4_1, .bool r_5_1, vr_6_1, .bool r_7_1]) hS (i := 0) rfl ta_29 rfl rfl rfl (List.forall_mem_cons.2 ⟨rfl, (List.forall_mem_cons.2 ⟨(shp (hS.own 1 rfl).slice).one, (List.forall_mem_cons.2 ⟨(shp (hS.own 2 rfl).slice).one, (List.forall_mem_cons.2 ⟨(shp hL_7.is).one, (List.forall_mem_cons.2 ⟨(shp (hS.own 3 rfl).slice).one, (List.forall_mem_cons.2 ⟨rfl, (List.forall_mem_cons.2 ⟨(shp (hS.own 4 rfl).slice).one, (List.forall_mem_cons.2 ⟨rfl, (fun _ h => by cases h)⟩)⟩)⟩)⟩)⟩)⟩)⟩)⟩) (Nat.le_of_ble_eq_true rfl) rfl) ?_
  rintro h_9 ⟨hS, hk⟩
  replace hS : St F_9 (Ow.box b_2 29 #[.bool r_0_3, vr_1_3, vr_2_3, vr_3_1, vr_4_1, .bool r_5_1, vr_6_1, .bool r_7_1] :: Ow.own 34 17 e_api_Addr vr_1_3 r_1_3 :: Ow.own 34 17 e_api_Addr vr_2_3 r_2_3 :: Ow.own 34 17 e_api_Addr vr_4_1 r_4_1 :: Ow.own 34 17 e_api_Addr vr_6_1 r_6_1 :: Ow.own 34 17 e_api_Addr vr_1 r_2 :: Ow.box b_1 24 #[.bool r_0_1, vr_1_1, vr_2_1] :: fr) h_9 := hS
  replace hK := hK.trans hk
  replace hL_s_On := hL_s_On.kp hk
  replace hL_s_Off := hL_s_Off.kp hk
  replace hL_l := hL_l.kp hk
  replace hL_1 := hL_1.kp hk
  replace hL_2 := hL_2.kp hk
  replace hL_3 := hL_3.kp hk
  replace hL_5 := hL_5.kp hk
  replace hL_6 := hL_6.kp hk
  replace hL_7 := hL_7.kp hk
  refine HO.nil (thenQ_normal (?_))
  refine HW.seq ?_
  refine HW.regionA 16 mixed (fun h => (Blk h b_2 (.cells #[.bool r_0_3, vr_1_3, vr_2_3, vr_3_1, vr_4_1, .bool r_5_1, vr_6_1, .bool r_7_1] 29 (0, 0))) ∧ (Blk h b_1 (.cells #[.bool r_0_1, vr_1_1, vr_2_1] 24 (0, 0)))) [] (by kernel_rfl) ?_
  refine HA.val (k := 0) (v := .agg #[.bool r_0_3, vr_1_3, vr_2_3, vr_3_1, vr_4_1, .bool r_5_1, vr_6_1, .bool r_7_1]) rfl rfl (by kernel_rfl) (by kernel_rfl) (want_none) rfl (fun _ ⟨c210, c201⟩ => q_loadAgg (cs := [.bool r_0_3, vr_1_3, vr_2_3, vr_3_1, vr_4_1, .bool r_5_1, vr_6_1, .bool r_7_1]) ta_29 rfl rfl (Blk.cells (k := 8) c210 rfl)) ?_
  refine HA.val (k := 1) (v := .agg #[.bool r_0_1, vr_1_1, vr_2_1]) rfl rfl (by kernel_rfl) (by kernel_rfl) (want_none) rfl (fun _ ⟨c210, c201⟩ => q_loadAgg (cs := [.bool r_0_1, vr_1_1, vr_2_1]) ta_24 rfl rfl (Blk.cells (k := 3) c201 rfl)) ?_
  refine HA.val (k := 2) (v := .int .i64 kind) rfl rfl (by kernel_rfl) (by kernel_rfl) (want_none) rfl (fun _ ⟨c210, c201⟩ => q_move rfl) ?_
  refine HA.val (k := 3) (v := vr_1) rfl rfl (by kernel_rfl) (by kernel_rfl) (want_none) rfl (fun _ ⟨c210, c201⟩ => q_move rfl) ?_
  refine HA.one (k := 4) ⟨⟨(hS.box 0 rfl), (hS.box 6 rfl)⟩, (Go.Wk.at_nil _ _)⟩ (by kernel_rfl) ?_
  replace hS : St F_9 (Ow.own 34 17 e_api_Addr vr_1 r_2 :: Ow.box b_2 29 #[.bool r_0_3, vr_1_3, vr_2_3, vr_3_1, vr_4_1, .bool r_5_1, vr_6_1, .bool r_7_1] :: Ow.own 34 17 e_api_Addr vr_1_3 r_1_3 :: Ow.own 34 17 e_api_Addr vr_2_3 r_2_3 :: Ow.own 34 17 e_api_Addr vr_4_1 r_4_1 :: Ow.own 34 17 e_api_Addr vr_6_1 r_6_1 :: Ow.box b_1 24 #[.bool r_0_1, vr_1_1, vr_2_1] :: fr) h_9 := hS.perm2 [5, 0, 1, 2, 3, 4, 6] 7 rfl rfl
  obtain ⟨F_10, hS, hk, hL_8⟩ := hS.freezeOwn
  replace hK := hK.trans hk
  replace hL_s_On := hL_s_On.kp hk
  replace hL_s_Off := hL_s_Off.kp hk
  replace hL_l := hL_l.kp hk
  replace hL_1 := hL_1.kp hk
  replace hL_2 := hL_2.kp hk
  replace hL_3 := hL_3.kp hk
  replace hL_5 := hL_5.kp hk
  replace hL_6 := hL_6.kp hk
  replace hL_7 := hL_7.kp hk
  refine HS.call rfl (want_none) rfl (ec en_8 rfl rfl) (ref11_Of_walk (fr := (Ow.box b_2 29 #[.bool r_0_3, vr_1_3, vr_2_3, vr_3_1, vr_4_1, .bool r_5_1, vr_6_1, .bool r_7_1] :: Ow.own 34 17 e_api_Addr vr_1_3 r_1_3 :: Ow.own 34 17 e_api_Addr vr_2_3 r_2_3 :: Ow.own 34 17 e_api_Addr vr_4_1 r_4_1 :: Ow.own 34 17 e_api_Addr vr_6_1 r_6_1 :: Ow.box b_1 24 #[.bool r_0_1, vr_1_1, vr_2_1] :: fr)) r_2 vr_1 hS hL_8 hM) ?_
  rintro vr_3 h_10 ⟨F_11, r_4, _, rfl, hk, hS, _, hL_9, hM⟩
  replace hK := hK.trans hk
  replace hL_s_On := hL_s_On.kp hk
  replace hL_s_Off := hL_s_Off.kp hk
  replace hL_l := hL_l.kp hk
  replace hL_1 := hL_1.kp hk
  replace hL_2 := hL_2.kp hk
  replace hL_3 := hL_3.kp hk
  replace hL_5 := hL_5.kp hk
  replace hL_6 := hL_6.kp hk
  replace hL_7 := hL_7.kp hk
  replace hL_8 := hL_8.kp hk
  refine HA.one (k := 5) ⟨⟨(hS.box 0 rfl), (hS.box 5 rfl)⟩, (Go.Wk.at_nil _ _)⟩ (by kernel_rfl) ?_
  refine HS.call rfl (want_none) rfl (ec en_17 rfl rfl) (ref15_Apply_walk (fr := (Ow.box b_2 29 #[.bool r_0_3, vr_1_3, vr_2_3, vr_3_1, vr_4_1, .bool r_5_1, vr_6_1, .bool r_7_1] :: Ow.own 34 17 e_api_Addr vr_1_3 r_1_3 :: Ow.own 34 17 e_api_Addr vr_2_3 r_2_3 :: Ow.own 34 17 e_api_Addr vr_4_1 r_4_1 :: Ow.own 34 17 e_api_Addr vr_6_1 r_6_1 :: Ow.box b_1 24 #[.bool r_0_1, vr_1_1, vr_2_1] :: fr)) r_0_1 r_1_1 r_2_1 kind r_4 vr_1_1 vr_2_1 vr_3 hS hL_1 hL_2 hL_9 hM) ?_
  rintro _ h_11 ⟨F_12, r_0_4, r_1_4, r_2_4, r_3_2, r_4_2, r_5_2, r_6_2, r_7_2, vr_1_4, vr_2_4, vr_3_2, vr_4_2, vr_6_2, rfl, hk, hS, _, _, _, hM⟩
  replace hK := hK.trans hk
  replace hL_s_On := hL_s_On.kp hk
  replace hL_s_Off := hL_s_Off.kp hk
  replace hL_l := hL_l.kp hk
  replace hL_1 := hL_1.kp hk
  replace hL_2 := hL_2.kp hk
  replace hL_3 := hL_3.kp hk
  replace hL_5 := hL_5.kp hk
  replace hL_6 := hL_6.kp hk
  replace hL_7 := hL_7.kp hk
  replace hL_8 := hL_8.kp hk
  replace hL_9 := hL_9.kp hk
  refine HA.one (k := 6) ⟨⟨(hS.box 5 rfl), (hS.box 10 rfl)⟩, (Go.Wk.at_nil _ _)⟩ (by kernel_rfl) ?_
  replace hS : St F_12 (Ow.own 34 17 e_api_Addr vr_1_3 r_1_3 :: Ow.own 34 17 e_api_Addr vr_1_4 r_1_4 :: Ow.own 34 17 e_api_Addr vr_2_4 r_2_4 :: Ow.own 34 17 e_api_Addr vr_3_2 r_3_2 :: Ow.own 34 17 e_api_Addr vr_4_2 r_4_2 :: Ow.own 34 17 e_api_Addr vr_6_2 r_6_2 :: Ow.box b_2 29 #[.bool r_0_3, vr_1_3, vr_2_3, vr_3_1, vr_4_1, .bool r_5_1, vr_6_1, .bool r_7_1] :: Ow.own 34 17 e_api_Addr vr_2_3 r_2_3 :: Ow.own 34 17 e_api_Addr vr_4_1 r_4_1 :: Ow.own 34 17 e_api_Addr vr_6_1 r_6_1 :: Ow.box b_1 24 #[.bool r_0_1, vr_1_1, vr_2_1] :: fr) h_11 := hS.perm2 [6, 0, 1, 2, 3, 4, 5, 7, 8, 9, 10] 11 rfl rfl
  have hZ_2 := hS
  have hkz_2 := (hS.freeze).2
  replace hS := hS.freeze.1
  have hL_10 : SliceF (fun b => F_12 b ∨ (Ow.own 34 17 e_api_Addr vr_1_3 r_1_3).foot b) h_11 17 e_api_Addr vr_1_3 r_1_3 := ⟨(hZ_2.own 0 rfl).slice, fun _ b hb => .inr hb⟩
  replace hS : St (fun b => F_12 b ∨ (Ow.own 34 17 e_api_Addr vr_1_3 r_1_3).foot b) (Ow.own 34 17 e_api_Addr vr_2_3 r_2_3 :: Ow.own 34 17 e_api_Addr vr_1_4 r_1_4 :: Ow.own 34 17 e_api_Addr vr_2_4 r_2_4 :: Ow.own 34 17 e_api_Addr vr_3_2 r_3_2 :: Ow.own 34 17 e_api_Addr vr_4_2 r_4_2 :: Ow.own 34 17 e_api_Addr vr_6_2 r_6_2 :: Ow.box b_2 29 #[.bool r_0_3, vr_1_3, vr_2_3, vr_3_1, vr_4_1, .bool r_5_1, vr_6_1, .bool r_7_1] :: Ow.own 34 17 e_api_Addr vr_4_1 r_4_1 :: Ow.own 34 17 e_api_Addr vr_6_1 r_6_1 :: Ow.box b_1 24 #[.bool r_0_1, vr_1_1, vr_2_1] :: fr) h_11 := hS.perm2 [6, 0, 1, 2, 3, 4, 5, 7, 8, 9] 10 rfl rfl
  have hZ_3 := hS
  have hkz_3 := (hS.freeze).2
  replace hS := hS.freeze.1
  have hL_11 : SliceF (fun b => (fun b => F_12 b ∨ (Ow.own 34 17 e_api_Addr vr_1_3 r_1_3).foot b) b ∨ (Ow.own 34 17 e_api_Addr vr_2_3 r_2_3).foot b) h_11 17 e_api_Addr vr_2_3 r_2_3 := ⟨(hZ_3.own 0 rfl).slice, fun _ b hb => .inr hb⟩
  replace hS : St (fun b => (fun b => F_12 b ∨ (Ow.own 34 17 e_api_Addr vr_1_3 r_1_3).foot b) b ∨ (Ow.own 34 17 e_api_Addr vr_2_3 r_2_3).foot b) (Ow.own 34 17 e_api_Addr vr_4_1 r_4_1 :: Ow.own 34 17 e_api_Addr vr_1_4 r_1_4 :: Ow.own 34 17 e_api_Addr vr_2_4 r_2_4 :: Ow.own 34 17 e_api_Addr vr_3_2 r_3_2 :: Ow.own 34 17 e_api_Addr vr_4_2 r_4_2 :: Ow.own 34 17 e_api_Addr vr_6_2 r_6_2 :: Ow.box b_2 29 #[.bool r_0_3, vr_1_3, vr_2_3, vr_3_1, vr_4_1, .bool r_5_1, vr_6_1, .bool r_7_1] :: Ow.own 34 17 e_api_Addr vr_6_1 r_6_1 :: Ow.box b_1 24 #[.bool r_0_1, vr_1_1, vr_2_1] :: fr) h_11 := hS.perm2 [6, 0, 1, 2, 3, 4, 5, 7, 8] 9 rfl rfl
  have hZ_4 := hS
  have hkz_4 := (hS.freeze).2
  replace hS := hS.freeze.1
  have hL_12 : SliceF (fun b => (fun b => (fun b => F_12 b ∨ (Ow.own 34 17 e_api_Addr vr_1_3 r_1_3).foot b) b ∨ (Ow.own 34 17 e_api_Addr vr_2_3 r_2_3).foot b) b ∨ (Ow.own 34 17 e_api_Addr vr_4_1 r_4_1).foot b) h_11 17 e_api_Addr vr_4_1 r_4_1 := ⟨(hZ_4.own 0 rfl).slice, fun _ b hb => .inr hb⟩
  replace hS : St (fun b => (fun b => (fun b => F_12 b ∨ (Ow.own 34 17 e_api_Addr vr_1_3 r_1_3).foot b) b ∨ (Ow.own 34 17 e_api_Addr vr_2_3 r_2_3).foot b) b ∨ (Ow.own 34 17 e_api_Addr vr_4_1 r_4_1).foot b) (Ow.own 34 17 e_api_Addr vr_6_1 r_6_1 :: Ow.own 34 17 e_api_Addr vr_1_4 r_1_4 :: Ow.own 34 17 e_api_Addr vr_2_4 r_2_4 :: Ow.own 34 17 e_api_Addr vr_3_2 r_3_2 :: Ow.own 34 17 e_api_Addr vr_4_2 r_4_2 :: Ow.own 34 17 e_api_Addr vr_6_2 r_6_2 :: Ow.box b_2 29 #[.bool r_0_3, vr_1_3, vr_2_3, vr_3_1, vr_4_1, .bool r_5_1, vr_6_1, .bool r_7_1] :: Ow.box b_1 24 #[.bool r_0_1, vr_1_1, vr_2_1] :: fr) h_11 := hS.perm2 [6, 0, 1, 2, 3, 4, 5, 7] 8 rfl rfl
  have hZ_5 := hS
  have hkz_5 := (hS.freeze).2
  replace hS := hS.freeze.1
  have hL_13 : SliceF (fun b => (fun b => (fun b => (fun b => F_12 b ∨ (Ow.own 34 17 e_api_Addr vr_1_3 r_1_3).foot b) b ∨ (Ow.own 34 17 e_api_Addr vr_2_3 r_2_3).foot b) b ∨ (Ow.own 34 17 e_api_Addr vr_4_1 r_4_1).foot b) b ∨ (Ow.own 34 17 e_api_Addr vr_6_1 r_6_1).foot b) h_11 17 e_api_Addr vr_6_1 r_6_1 := ⟨(hZ_5.own 0 rfl).slice, fun _ b hb => .inr hb⟩
  have hZ_6 := hS
  have hkz_6 := (hS.freeze).2
  replace hS := hS.freeze.1
  have hL_14 : SliceF (fun b => (fun b => (fun b => (fun b => (fun b => F_12 b ∨ (Ow.own 34 17 e_api_Addr vr_1_3 r_1_3).foot b) b ∨ (Ow.own 34 17 e_api_Addr vr_2_3 r_2_3).foot b) b ∨ (Ow.own 34 17 e_api_Addr vr_4_1 r_4_1).foot b) b ∨ (Ow.own 34 17 e_api_Addr vr_6_1 r_6_1).foot b) b ∨ (Ow.own 34 17 e_api_Addr vr_1_4 r_1_4).foot b) h_11 17 e_api_Addr vr_1_4 r_1_4 := ⟨(hZ_6.own 0 rfl).slice, fun _ b hb => .inr hb⟩
  have hZ_7 := hS
  have hkz_7 := (hS.freeze).2
  replace hS := hS.freeze.1
  have hL_15 : SliceF (fun b => (fun b => (fun b => (fun b => (fun b => (fun b => F_12 b ∨ (Ow.own 34 17 e_api_Addr vr_1_3 r_1_3).foot b) b ∨ (Ow.own 34 17 e_api_Addr vr_2_3 r_2_3).foot b) b ∨ (Ow.own 34 17 e_api_Addr vr_4_1 r_4_1).foot b) b ∨ (Ow.own 34 17 e_api_Addr vr_6_1 r_6_1).foot b) b ∨ (Ow.own 34 17 e_api_Addr vr_1_4 r_1_4).foot b) b ∨ (Ow.own 34 17 e_api_Addr vr_2_4 r_2_4).foot b) h_11 17 e_api_Addr vr_2_4 r_2_4 := ⟨(hZ_7.own 0 rfl).slice, fun _ b hb => .inr hb⟩
  have hZ_8 := hS
  have hkz_8 := (hS.freeze).2
  replace hS := hS.freeze.1
  have hL_16 : SliceF (fun b => (fun b => (fun b => (fun b => (fun b => (fun b => (fun b => F_12 b ∨ (Ow.own 34 17 e_api_Addr vr_1_3 r_1_3).foot b) b ∨ (Ow.own 34 17 e_api_Addr vr_2_3 r_2_3).foot b) b ∨ (Ow.own 34 17 e_api_Addr vr_4_1 r_4_1).foot b) b ∨ (Ow.own 34 17 e_api_Addr vr_6_1 r_6_1).foot b) b ∨ (Ow.own 34 17 e_api_Addr vr_1_4 r_1_4).foot b) b ∨ (Ow.own 34 17 e_api_Addr vr_2_4 r_2_4).foot b) b ∨ (Ow.own 34 17 e_api_Addr vr_3_2 r_3_2).foot b) h_11 17 e_api_Addr vr_3_2 r_3_2 := ⟨(hZ_8.own 0 rfl).slice, fun _ b hb => .inr hb⟩
  have hZ_9 := hS
  have hkz_9 := (hS.freeze).2
  replace hS := hS.freeze.1
  have hL_17 : SliceF (fun b => (fun b => (fun b => (fun b => (fun b => (fun b => (fun b => (fun b => F_12 b ∨ (Ow.own 34 17 e_api_Addr vr_1_3 r_1_3).foot b) b ∨ (Ow.own 34 17 e_api_Addr vr_2_3 r_2_3).foot b) b ∨ (Ow.own 34 17 e_api_Addr vr_4_1 r_4_1).foot b) b ∨ (Ow.own 34 17 e_api_Addr vr_6_1 r_6_1).foot b) b ∨ (Ow.own 34 17 e_api_Addr vr_1_4 r_1_4).foot b) b ∨ (Ow.own 34 17 e_api_Addr vr_2_4 r_2_4).foot b) b ∨ (Ow.own 34 17 e_api_Addr vr_3_2 r_3_2).foot b) b ∨ (Ow.own 34 17 e_api_Addr vr_4_2 r_4_2).foot b) h_11 17 e_api_Addr vr_4_2 r_4_2 := ⟨(hZ_9.own 0 rfl).slice, fun _ b hb => .inr hb⟩
  have hZ_10 := hS
  have hkz_10 := (hS.freeze).2
  replace hS := hS.freeze.1
  have hL_18 : SliceF (fun b => (fun b => (fun b => (fun b => (fun b => (fun b => (fun b => (fun b => (fun b => F_12 b ∨ (Ow.own 34 17 e_api_Addr vr_1_3 r_1_3).foot b) b ∨ (Ow.own 34 17 e_api_Addr vr_2_3 r_2_3).foot b) b ∨ (Ow.own 34 17 e_api_Addr vr_4_1 r_4_1).foot b) b ∨ (Ow.own 34 17 e_api_Addr vr_6_1 r_6_1).foot b) b ∨ (Ow.own 34 17 e_api_Addr vr_1_4 r_1_4).foot b) b ∨ (Ow.own 34 17 e_api_Addr vr_2_4 r_2_4).foot b) b ∨ (Ow.own 34 17 e_api_Addr vr_3_2 r_3_2).foot b) b ∨ (Ow.own 34 17 e_api_Addr vr_4_2 r_4_2).foot b) b ∨ (Ow.own 34 17 e_api_Addr vr_6_2 r_6_2).foot b) h_11 17 e_api_Addr vr_6_2 r_6_2 := ⟨(hZ_10.own 0 rfl).slice, fun _ b hb => .inr hb⟩
  refine HS.call rfl (want_none) rfl (ec en_16 rfl rfl) (ref15_SameStep_walk (fr := (Ow.box b_2 29 #[.bool r_0_3, vr_1_3, vr_2_3, vr_3_1, vr_4_1, .bool r_5_1, vr_6_1, .bool r_7_1] :: Ow.box b_1 24 #[.bool r_0_1, vr_1_1, vr_2_1] :: fr)) r_0_3 r_1_3 r_2_3 r_3_1 r_4_1 r_5_1 r_6_1 r_7_1 r_0_4 r_1_4 r_2_4 r_3_2 r_4_2 r_5_2 r_6_2 r_7_2 vr_1_3 vr_2_3 vr_3_1 vr_4_1 vr_6_1 vr_1_4 vr_2_4 vr_3_2 vr_4_2 vr_6_2 hS ((((((((hL_10.kp hkz_3).kp hkz_4).kp hkz_5).kp hkz_6).kp hkz_7).kp hkz_8).kp hkz_9).kp hkz_10) (((((((hL_11.kp hkz_4).kp hkz_5).kp hkz_6).kp hkz_7).kp hkz_8).kp hkz_9).kp hkz_10) (((((((((hL_7.kp hkz_2).kp hkz_3).kp hkz_4).kp hkz_5).kp hkz_6).kp hkz_7).kp hkz_8).kp hkz_9).kp hkz_10) ((((((hL_12.kp hkz_5).kp hkz_6).kp hkz_7).kp hkz_8).kp hkz_9).kp hkz_10) (((((hL_13.kp hkz_6).kp hkz_7).kp hkz_8).kp hkz_9).kp hkz_10) ((((hL_14.kp hkz_7).kp hkz_8).kp hkz_9).kp hkz_10) (((hL_15.kp hkz_8).kp hkz_9).kp hkz_10) ((hL_16.kp hkz_9).kp hkz_10) (hL_17.kp hkz_10) hL_18 hM) ?_
  rintro _ h_12 ⟨F_13, r_5, rfl, hk, hS, _, _, _, _, _, _, _, _, _, _, hM⟩
  obtain ⟨hS, hk⟩ := hZ_10.back hk hS
  obtain ⟨hS, hk⟩ := hZ_9.back hk hS
  obtain ⟨hS, hk⟩ := hZ_8.back hk hS
  obtain ⟨hS, hk⟩ := hZ_7.back hk hS
  obtain ⟨hS, hk⟩ := hZ_6.back hk hS
  obtain ⟨hS, hk⟩ := hZ_5.back hk hS
  obtain ⟨hS, hk⟩ := hZ_4.back hk hS
  obtain ⟨hS, hk⟩ := hZ_3.back hk hS
  obtain ⟨hS, hk⟩ := hZ_2.back hk hS
  generalize (fun b => (fun b => (fun b => (fun b => (fun b => (fun b => (fun b => (fun b => (fun b => F_13 b ∧ ¬ (Ow.own 34 17 e_api_Addr vr_6_2 r_6_2).foot b) b ∧ ¬ (Ow.own 34 17 e_api_Addr vr_4_2 r_4_2).foot b) b ∧ ¬ (Ow.own 34 17 e_api_Addr vr_3_2 r_3_2).foot b) b ∧ ¬ (Ow.own 34 17 e_api_Addr vr_2_4 r_2_4).foot b) b ∧ ¬ (Ow.own 34 17 e_api_Addr vr_1_4 r_1_4).foot b) b ∧ ¬ (Ow.own 34 17 e_api_Addr vr_6_1 r_6_1).foot b) b ∧ ¬ (Ow.own 34 17 e_api_Addr vr_4_1 r_4_1).foot b) b ∧ ¬ (Ow.own 34 17 e_api_Addr vr_2_3 r_2_3).foot b) b ∧ ¬ (Ow.own 34 17 e_api_Addr vr_1_3 r_1_3).foot b) = F_14 at hS hk
  replace hK := hK.trans hk
  replace hL_s_On := hL_s_On.kp hk
  replace hL_s_Off := hL_s_Off.kp hk
  replace hL_l := hL_l.kp hk
  replace hL_1 := hL_1.kp hk
  replace hL_2 := hL_2.kp hk
  replace hL_3 := hL_3.kp hk
  replace hL_5 := hL_5.kp hk
  replace hL_6 := hL_6.kp hk
  replace hL_7 := hL_7.kp hk
  replace hL_8 := hL_8.kp hk
  replace hL_9 := hL_9.kp hk
  refine HA.val (k := 7) (v := .bool r_5) rfl rfl (by kernel_rfl) (by kernel_rfl) (want_none) rfl (fun _ ⟨c210, c201⟩ => q_move rfl) ?_
  rcases Bool.eq_false_or_eq_true r_5 with c_1 | c_1
  · replace hM := hM.1 c_1
    refine HA.val (k := 8) (v := .pointer (some ⟨b_2, 0, none⟩)) rfl rfl (by kernel_rfl) (by kernel_rfl) (want_by rfl rfl c_1) rfl (fun _ ⟨c210, c201⟩ => q_fieldAddr fa_29_0 rfl rfl) ?_
    refine HA.val (k := 9) (v := .agg #[.bool r_0_3, vr_1_3, vr_2_3]) rfl rfl (by kernel_rfl) (by kernel_rfl) (want_by rfl rfl c_1) rfl (fun _ ⟨c210, c201⟩ => q_loadAgg (cs := [.bool r_0_3, vr_1_3, vr_2_3]) ta_24 rfl rfl (Blk.cells (k := 3) c210 rfl)) ?_
    refine HA.one (k := 10) ⟨⟨(hS.box 9 rfl), (hS.box 10 rfl)⟩, (Go.Wk.at_nil _ _)⟩ (by kernel_rfl) ?_
    have hZ_11 := hS
    have hkz_11 := (hS.freeze).2
    replace hS := hS.freeze.1
    have hL_19 : SliceF (fun b => F_14 b ∨ (Ow.own 34 17 e_api_Addr vr_1_3 r_1_3).foot b) h_12 17 e_api_Addr vr_1_3 r_1_3 := ⟨(hZ_11.own 0 rfl).slice, fun _ b hb => .inr hb⟩
    have hZ_12 := hS
    have hkz_12 := (hS.freeze).2
    replace hS := hS.freeze.1
    have hL_20 : SliceF (fun b => (fun b => F_14 b ∨ (Ow.own 34 17 e_api_Addr vr_1_3 r_1_3).foot b) b ∨ (Ow.own 34 17 e_api_Addr vr_2_3 r_2_3).foot b) h_12 17 e_api_Addr vr_2_3 r_2_3 := ⟨(hZ_12.own 0 rfl).slice, fun _ b hb => .inr hb⟩
    refine HS.call rfl (want_by rfl rfl c_1) rfl (ec en_18 rfl rfl) (filter_Good_walk (fr := (Ow.own 34 17 e_api_Addr vr_4_1 r_4_1 :: Ow.own 34 17 e_api_Addr vr_6_1 r_6_1 :: Ow.own 34 17 e_api_Addr vr_1_4 r_1_4 :: Ow.own 34 17 e_api_Addr vr_2_4 r_2_4 :: Ow.own 34 17 e_api_Addr vr_3_2 r_3_2 :: Ow.own 34 17 e_api_Addr vr_4_2 r_4_2 :: Ow.own 34 17 e_api_Addr vr_6_2 r_6_2 :: Ow.box b_2 29 #[.bool r_0_3, vr_1_3, vr_2_3, vr_3_1, vr_4_1, .bool r_5_1, vr_6_1, .bool r_7_1] :: Ow.box b_1 24 #[.bool r_0_1, vr_1_1, vr_2_1] :: fr)) r_0_3 r_1_3 r_2_3 vr_1_3 vr_2_3 hS (hL_19.kp hkz_12) hL_20 hM) ?_
    rintro _ h_13 ⟨F_15, r_6, rfl, hk, hS, _, _, hM⟩
    obtain ⟨hS, hk⟩ := hZ_12.back hk hS
    obtain ⟨hS, hk⟩ := hZ_11.back hk hS
    generalize (fun b => (fun b => F_15 b ∧ ¬ (Ow.own 34 17 e_api_Addr vr_2_3 r_2_3).foot b) b ∧ ¬ (Ow.own 34 17 e_api_Addr vr_1_3 r_1_3).foot b) = F_16 at hS hk
    replace hK := hK.trans hk
    replace hL_s_On := hL_s_On.kp hk
    replace hL_s_Off := hL_s_Off.kp hk
    replace hL_l := hL_l.kp hk
    replace hL_1 := hL_1.kp hk
    replace hL_2 := hL_2.kp hk
    replace hL_3 := hL_3.kp hk
    replace hL_5 := hL_5.kp hk
    replace hL_6 := hL_6.kp hk
    replace hL_7 := hL_7.kp hk
    replace hL_8 := hL_8.kp hk
    replace hL_9 := hL_9.kp hk
    refine HA.val (k := 11) (v := .bool r_6) rfl rfl (by kernel_rfl) (by kernel_rfl) (want_none) rfl (fun _ ⟨c210, c201⟩ => q_pickK true rfl c_1 rfl) ?_
    refine HA.val (k := 12) (v := .bool r_6) rfl rfl (by kernel_rfl) (by kernel_rfl) (want_none) rfl (fun _ ⟨c210, c201⟩ => q_move rfl) ?_
    rcases Bool.eq_false_or_eq_true r_6 with c_2 | c_2
    · replace hM := hM.1 c_2
      refine HA.one (k := 13) ⟨⟨(hS.box 9 rfl), (hS.box 10 rfl)⟩, (Go.Wk.at_nil _ _)⟩ (by kernel_rfl) ?_
      refine HS.call rfl (want_by rfl rfl c_2) rfl (ec en_15 rfl rfl) (law15_lives_walk (fr := (Ow.own 34 17 e_api_Addr vr_1_3 r_1_3 :: Ow.own 34 17 e_api_Addr vr_2_3 r_2_3 :: Ow.own 34 17 e_api_Addr vr_4_1 r_4_1 :: Ow.own 34 17 e_api_Addr vr_6_1 r_6_1 :: Ow.own 34 17 e_api_Addr vr_1_4 r_1_4 :: Ow.own 34 17 e_api_Addr vr_2_4 r_2_4 :: Ow.own 34 17 e_api_Addr vr_3_2 r_3_2 :: Ow.own 34 17 e_api_Addr vr_4_2 r_4_2 :: Ow.own 34 17 e_api_Addr vr_6_2 r_6_2 :: Ow.box b_2 29 #[.bool r_0_3, vr_1_3, vr_2_3, vr_3_1, vr_4_1, .bool r_5_1, vr_6_1, .bool r_7_1] :: Ow.box b_1 24 #[.bool r_0_1, vr_1_1, vr_2_1] :: fr))  hS hM) ?_
      rintro _ h_14 ⟨F_17, r_7, rfl, hk, hS, hM⟩
      replace hK := hK.trans hk
      replace hL_s_On := hL_s_On.kp hk
      replace hL_s_Off := hL_s_Off.kp hk
      replace hL_l := hL_l.kp hk
      replace hL_1 := hL_1.kp hk
      replace hL_2 := hL_2.kp hk
      replace hL_3 := hL_3.kp hk
      replace hL_5 := hL_5.kp hk
      replace hL_6 := hL_6.kp hk
      replace hL_7 := hL_7.kp hk
      replace hL_8 := hL_8.kp hk
      replace hL_9 := hL_9.kp hk
      refine HA.val (k := 14) (v := .bool r_7) rfl rfl (by kernel_rfl) (by kernel_rfl) (want_none) rfl (fun _ ⟨c210, c201⟩ => q_pickK true rfl c_2 rfl) ?_
      refine HA.val (k := 15) (v := .bool r_7) rfl rfl (by kernel_rfl) (by kernel_rfl) (want_none) rfl (fun _ ⟨c210, c201⟩ => q_assign rfl) ?_
      refine HA.nil ⟨⟨(hS.box 9 rfl), (hS.box 10 rfl)⟩, (Go.Wk.at_nil _ _)⟩ (by kernel_rfl) (thenQ_normal (?_))
      refine HW.ret (?_)
      refine ⟨.inr rfl, .bool r_7, res1 rfl (rt rfl), ?_⟩
      replace hS : St F_17 (fr) h_14 := hS.perm2 [] 11 rfl rfl
      exact ⟨F_17, r_7, rfl, hK, hS, hL_s_On, hL_s_Off, hL_l, hM⟩
    · replace hM := hM.2 c_2
      refine HA.one (k := 13) ⟨⟨(hS.box 9 rfl), (hS.box 10 rfl)⟩, (Go.Wk.at_nil _ _)⟩ (by kernel_rfl) ?_
      refine HS.past rfl (past_by rfl rfl c_2) rfl ?_
      refine HA.val (k := 14) (v := .bool false) rfl rfl (by kernel_rfl) (by kernel_rfl) (want_none) rfl (fun _ ⟨c210, c201⟩ => q_pickK false rfl c_2 rfl) ?_
      refine HA.val (k := 15) (v := .bool false) rfl rfl (by kernel_rfl) (by kernel_rfl) (want_none) rfl (fun _ ⟨c210, c201⟩ => q_assign rfl) ?_
      refine HA.nil ⟨⟨(hS.box 9 rfl), (hS.box 10 rfl)⟩, (Go.Wk.at_nil _ _)⟩ (by kernel_rfl) (thenQ_normal (?_))
      refine HW.ret (?_)
      refine ⟨.inr rfl, .bool false, res1 rfl (rt rfl), ?_⟩
      replace hS : St F_16 (fr) h_13 := hS.perm2 [] 11 rfl rfl
      exact ⟨F_16, false, rfl, hK, hS, hL_s_On, hL_s_Off, hL_l, hM⟩
  · replace hM := hM.2 c_1
    refine HA.past (k := 8) rfl rfl (by kernel_rfl) (by kernel_rfl) (past_by rfl rfl c_1) rfl ?_
    refine HA.past (k := 9) rfl rfl (by kernel_rfl) (by kernel_rfl) (past_by rfl rfl c_1) rfl ?_
    refine HA.one (k := 10) ⟨⟨(hS.box 9 rfl), (hS.box 10 rfl)⟩, (Go.Wk.at_nil _ _)⟩ (by kernel_rfl) ?_
    refine HS.past rfl (past_by rfl rfl c_1) rfl ?_
    refine HA.val (k := 11) (v := .bool false) rfl rfl (by kernel_rfl) (by kernel_rfl) (want_none) rfl (fun _ ⟨c210, c201⟩ => q_pickK false rfl c_1 rfl) ?_
    refine HA.val (k := 12) (v := .bool false) rfl rfl (by kernel_rfl) (by kernel_rfl) (want_none) rfl (fun _ ⟨c210, c201⟩ => q_move rfl) ?_
    refine HA.one (k := 13) ⟨⟨(hS.box 9 rfl), (hS.box 10 rfl)⟩, (Go.Wk.at_nil _ _)⟩ (by kernel_rfl) ?_
    refine HS.past rfl (past_some rfl rfl) rfl ?_
    refine HA.val (k := 14) (v := .bool false) rfl rfl (by kernel_rfl) (by kernel_rfl) (want_none) rfl (fun _ ⟨c210, c201⟩ => q_pick rfl rfl) ?_
    refine HA.val (k := 15) (v := .bool false) rfl rfl (by kernel_rfl) (by kernel_rfl) (want_none) rfl (fun _ ⟨c210, c201⟩ => q_assign rfl) ?_
    refine HA.nil ⟨⟨(hS.box 9 rfl), (hS.box 10 rfl)⟩, (Go.Wk.at_nil _ _)⟩ (by kernel_rfl) (thenQ_normal (?_))
    refine HW.ret (?_)
    refine ⟨.inr rfl, .bool false, res1 rfl (rt rfl), ?_⟩
    replace hS : St F_14 (fr) h_12 := hS.perm2 [] 11 rfl rfl
    exact ⟨F_14, false, rfl, hK, hS, hL_s_On, hL_s_Off, hL_l, hM⟩

def ref15_Good_j1 (s_On : List T_api_Addr) (s_Off : List T_api_Addr) (Q : Bool → Prop) : Prop :=
  ref11_Pick_W s_On s_Off true (fun r_6 => Q (decide ((r_6.length : Int) = 0)))
def ref15_Good_W (s_Exclude : Bool) (s_On : List T_api_Addr) (s_Off : List T_api_Addr) (Q : Bool → Prop) : Prop :=
  ref11_Of_W s_On (fun r_2 => ref11_Same_W r_2 s_On (fun r_3 => ((!r_3) = true → Q false) ∧ ((!r_3) = false → ref11_Of_W s_Off (fun r_4 => ref11_Same_W r_4 s_Off (fun r_5 => ((!r_5) = true → Q false) ∧ ((!r_5) = false → ((!s_Exclude) = true → (0 < (s_Off.length : Int) → Q false) ∧ (¬ (0 < (s_Off.length : Int)) → ref15_Good_j1 s_On s_Off Q)) ∧ ((!s_Exclude) = false → ref15_Good_j1 s_On s_Off Q)))))))
set_option maxHeartbeats 40000000 in
set_option maxRecDepth 100000 in
theorem ref15_Good_walk {F : Fz} {fr : List Ow} {h0 : Heap} (s_Exclude : Bool) (s_On : List T_api_Addr) (s_Off : List T_api_Addr) (vs_On : Value) (vs_Off : Value) (hS : St F (fr) h0) (hL_s_On : SliceF F h0 17 e_api_Addr vs_On s_On) (hL_s_Off : SliceF F h0 17 e_api_Addr vs_Off s_Off) {Q : Bool → Prop} (hM : ref15_Good_W s_Exclude s_On s_Off Q) :
    HC Try.prog 26 #[.agg #[.bool s_Exclude, vs_On, vs_Off]] h0 fun u h' => ∃ (F' : Fz) (r_1 : Bool), u = .bool r_1 ∧ Kp F h0 F' h' ∧ St F' (fr) h' ∧ (SliceF F' h' 17 e_api_Addr vs_On s_On) ∧ (SliceF F' h' 17 e_api_Addr vs_Off s_Off) ∧ Q r_1 := by
  unfold ref15_Good_W at hM
  have hK := Kp.refl F h0
  refine HC.of_HW (n := 37) Try.func26 rfl rfl (Nat.le_of_ble_eq_true rfl) ?_
  refine HW.seq ?_
  refine HW.region ?_
  refine HO.eff (want_none) rfl (st_box (c := #[.bool s_Exclude, vs_On, vs_Off]) (k' := 3) hS rfl rfl) ?_
  rintro _ h_1 ⟨b_1, rfl, hS, hk⟩
  replace hK := hK.trans hk
  replace hL_s_On := hL_s_On.kp hk
  replace hL_s_Off := hL_s_Off.kp hk
  refine HO.val (v := .bool false) (want_none) rfl (q_assign rfl) ?_
  refine HO.nil (thenQ_normal (?_))
  refine HW.seq_mid (fun f h => ∃ (F' : Fz), f 1 = .pointer (some ⟨b_1, 0, none⟩) ∧ f 2 = .bool false ∧ Kp F h0 F' h ∧ St F' (Ow.box b_1 24 #[.bool s_Exclude, vs_On, vs_Off] :: fr) h ∧ (SliceF F' h 17 e_api_Addr vs_On s_On) ∧ (SliceF F' h 17 e_api_Addr vs_Off s_Off) ∧ ref15_Good_j1 s_On s_Off Q) ?_ ?_
  · refine HW.seq ?_
    refine HW.regionA 27 mixed (fun h => (SliceIs h 17 e_api_Addr vs_Off s_Off) ∧ (Blk h b_1 (.cells #[.bool s_Exclude, vs_On, vs_Off] 24 (0, 0)))) [] (by kernel_rfl) ?_
    refine HA.val (k := 0) (v := .pointer (some ⟨b_1, 1, none⟩)) rfl rfl (by kernel_rfl) (by kernel_rfl) (want_none) rfl (fun _ ⟨hL_s_Off, c201⟩ => q_fieldAddr fa_24_1 rfl rfl) ?_
    refine HA.val (k := 1) (v := vs_On) rfl rfl (by kernel_rfl) (by kernel_rfl) (want_none) rfl (fun _ ⟨hL_s_Off, c201⟩ => q_load to_22 rfl (Blk.cell c201 rfl)) ?_
    refine HA.val (k := 3) (v := .pointer (some ⟨b_1, 1, none⟩)) rfl rfl (by kernel_rfl) (by kernel_rfl) (want_none) rfl (fun _ ⟨hL_s_Off, c201⟩ => q_fieldAddr fa_24_1 rfl rfl) ?_
    refine HA.val (k := 4) (v := vs_On) rfl rfl (by kernel_rfl) (by kernel_rfl) (want_none) rfl (fun _ ⟨hL_s_Off, c201⟩ => q_load to_22 rfl (Blk.cell c201 rfl)) ?_
    refine HA.one (k := 2) ⟨⟨hL_s_Off.is, (hS.box 0 rfl)⟩, (Go.Wk.at_nil _ _)⟩ (by kernel_rfl) ?_
    refine HS.call rfl (want_none) rfl (ec en_8 rfl rfl) (ref11_Of_walk (fr := (Ow.box b_1 24 #[.bool s_Exclude, vs_On, vs_Off] :: fr)) s_On vs_On hS hL_s_On hM) ?_
    rintro vr_1 h_2 ⟨F_1, r_2, _, rfl, hk, hS, _, hL_1, hM⟩
    replace hK := hK.trans hk
    replace hL_s_On := hL_s_On.kp hk
    replace hL_s_Off := hL_s_Off.kp hk
    refine HA.one (k := 5) ⟨⟨hL_s_Off.is, (hS.box 0 rfl)⟩, (Go.Wk.at_nil _ _)⟩ (by kernel_rfl) ?_
    refine HS.call rfl (want_none) rfl (ec en_35 rfl rfl) (ref11_Same_walk (fr := (Ow.box b_1 24 #[.bool s_Exclude, vs_On, vs_Off] :: fr)) r_2 s_On vr_1 vs_On hS hL_1 hL_s_On hM) ?_
    rintro _ h_3 ⟨F_2, r_3, rfl, hk, hS, _, _, hM⟩
    replace hK := hK.trans hk
    replace hL_s_On := hL_s_On.kp hk
    replace hL_s_Off := hL_s_Off.kp hk
    replace hL_1 := hL_1.kp hk
    refine HA.val (k := 6) (v := .bool (!r_3)) rfl rfl (by kernel_rfl) (by kernel_rfl) (want_none) rfl (fun _ ⟨hL_s_Off, c201⟩ => q_not rfl) ?_
    refine HA.val (k := 7) (v := .bool (!r_3)) rfl rfl (by kernel_rfl) (by kernel_rfl) (want_none) rfl (fun _ ⟨hL_s_Off, c201⟩ => q_move rfl) ?_
    rcases Bool.eq_false_or_eq_true (!r_3) with c_1 | c_1
    · replace hM := hM.1 c_1
      refine HA.past (k := 8) rfl rfl (by kernel_rfl) (by kernel_rfl) (past_by rfl rfl c_1) rfl ?_
      refine HA.past (k := 9) rfl rfl (by kernel_rfl) (by kernel_rfl) (past_by rfl rfl c_1) rfl ?_
      refine HA.past (k := 11) rfl rfl (by kernel_rfl) (by kernel_rfl) (past_by rfl rfl c_1) rfl ?_
      refine HA.past (k := 12) rfl rfl (by kernel_rfl) (by kernel_rfl) (past_by rfl rfl c_1) rfl ?_
      refine HA.one (k := 10) ⟨⟨hL_s_Off.is, (hS.box 0 rfl)⟩, (Go.Wk.at_nil _ _)⟩ (by kernel_rfl) ?_
      refine HS.past rfl (past_by rfl rfl c_1) rfl ?_
      refine HA.one (k := 13) ⟨⟨hL_s_Off.is, (hS.box 0 rfl)⟩, (Go.Wk.at_nil _ _)⟩ (by kernel_rfl) ?_
      refine HS.past rfl (past_by rfl rfl c_1) rfl ?_
      refine HA.past (k := 14) rfl rfl (by kernel_rfl) (by kernel_rfl) (past_by rfl rfl c_1) rfl ?_
      refine HA.val (k := 15) (v := .bool true) rfl rfl (by kernel_rfl) (by kernel_rfl) (want_none) rfl (fun _ ⟨hL_s_Off, c201⟩ => q_pickK true rfl c_1 rfl) ?_
      refine HA.val (k := 16) (v := .bool true) rfl rfl (by kernel_rfl) (by kernel_rfl) (want_none) rfl (fun _ ⟨hL_s_Off, c201⟩ => q_move rfl) ?_
      refine HA.past (k := 17) rfl rfl (by kernel_rfl) (by kernel_rfl) (past_some rfl rfl) rfl ?_
      refine HA.past (k := 18) rfl rfl (by kernel_rfl) (by kernel_rfl) (past_some rfl rfl) rfl ?_
      refine HA.past (k := 19) rfl rfl (by kernel_rfl) (by kernel_rfl) (past_some rfl rfl) rfl ?_
      refine HA.past (k := 20) rfl rfl (by kernel_rfl) (by kernel_rfl) (past_some rfl rfl) rfl ?_
      refine HA.past (k := 21) rfl rfl (by kernel_rfl) (by kernel_rfl) (past_undef rfl rfl) rfl ?_
      refine HA.past (k := 22) rfl rfl (by kernel_rfl) (by kernel_rfl) (past_undef rfl rfl) rfl ?_
      refine HA.past (k := 23) rfl rfl (by kernel_rfl) (by kernel_rfl) (past_undef rfl rfl) rfl ?_
      refine HA.past (k := 24) rfl rfl (by kernel_rfl) (by kernel_rfl) (past_undef rfl rfl) rfl ?_
      refine HA.past (k := 25) rfl rfl (by kernel_rfl) (by kernel_rfl) (past_some rfl rfl) rfl ?_
      refine HA.val (k := 26) (v := .bool true) rfl rfl (by kernel_rfl) (by kernel_rfl) (want_none) rfl (fun _ ⟨hL_s_Off, c201⟩ => q_pick rfl rfl) ?_
      refine HA.nil ⟨⟨hL_s_Off.is, (hS.box 0 rfl)⟩, (Go.Wk.at_nil _ _)⟩ (by kernel_rfl) (thenQ_normal (?_))
      refine HW.condT rfl ?_
      refine HW.seq ?_
      refine HW.region ?_
      refine HO.val (v := .bool false) (want_none) rfl (q_assign rfl) ?_
      refine HO.nil (thenQ_normal (?_))
      refine HW.ret (thenQ_ret (?_))
      refine ⟨.inr rfl, .bool false, res1 rfl (rt rfl), ?_⟩
      replace hS : St F_2 (fr) h_3 := hS.perm2 [] 1 rfl rfl
      exact ⟨F_2, false, rfl, hK, hS, hL_s_On, hL_s_Off, hM⟩
    · replace hM := hM.2 c_1
      refine HA.val (k := 8) (v := .pointer (some ⟨b_1, 2, none⟩)) rfl rfl (by kernel_rfl) (by kernel_rfl) (want_by rfl rfl c_1) rfl (fun _ ⟨hL_s_Off, c201⟩ => q_fieldAddr fa_24_2 rfl rfl) ?_
      refine HA.val (k := 9) (v := vs_Off) rfl rfl (by kernel_rfl) (by kernel_rfl) (want_by rfl rfl c_1) rfl (fun _ ⟨hL_s_Off, c201⟩ => q_load to_22 rfl (Blk.cell c201 rfl)) ?_
      refine HA.val (k := 11) (v := .pointer (some ⟨b_1, 2, none⟩)) rfl rfl (by kernel_rfl) (by kernel_rfl) (want_by rfl rfl c_1) rfl (fun _ ⟨hL_s_Off, c201⟩ => q_fieldAddr fa_24_2 rfl rfl) ?_
      refine HA.val (k := 12) (v := vs_Off) rfl rfl (by kernel_rfl) (by kernel_rfl) (want_by rfl rfl c_1) rfl (fun _ ⟨hL_s_Off, c201⟩ => q_load to_22 rfl (Blk.cell c201 rfl)) ?_
      refine HA.one (k := 10) ⟨⟨hL_s_Off.is, (hS.box 0 rfl)⟩, (Go.Wk.at_nil _ _)⟩ (by kernel_rfl) ?_
      refine HS.call rfl (want_by rfl rfl c_1) rfl (ec en_8 rfl rfl) (ref11_Of_walk (fr := (Ow.box b_1 24 #[.bool s_Exclude, vs_On, vs_Off] :: fr)) s_Off vs_Off hS hL_s_Off hM) ?_
      rintro vr_2 h_4 ⟨F_3, r_4, _, rfl, hk, hS, _, hL_2, hM⟩
      replace hK := hK.trans hk
      replace hL_s_On := hL_s_On.kp hk
      replace hL_s_Off := hL_s_Off.kp hk
      replace hL_1 := hL_1.kp hk
      refine HA.one (k := 13) ⟨⟨hL_s_Off.is, (hS.box 0 rfl)⟩, (Go.Wk.at_nil _ _)⟩ (by kernel_rfl) ?_
      refine HS.call rfl (want_by rfl rfl c_1) rfl (ec en_35 rfl rfl) (ref11_Same_walk (fr := (Ow.box b_1 24 #[.bool s_Exclude, vs_On, vs_Off] :: fr)) r_4 s_Off vr_2 vs_Off hS hL_2 hL_s_Off hM) ?_
      rintro _ h_5 ⟨F_4, r_5, rfl, hk, hS, _, _, hM⟩
      replace hK := hK.trans hk
      replace hL_s_On := hL_s_On.kp hk
      replace hL_s_Off := hL_s_Off.kp hk
      replace hL_1 := hL_1.kp hk
      replace hL_2 := hL_2.kp hk
      refine HA.val (k := 14) (v := .bool (!r_5)) rfl rfl (by kernel_rfl) (by kernel_rfl) (want_by rfl rfl c_1) rfl (fun _ ⟨hL_s_Off, c201⟩ => q_not rfl) ?_
      refine HA.val (k := 15) (v := .bool (!r_5)) rfl rfl (by kernel_rfl) (by kernel_rfl) (want_none) rfl (fun _ ⟨hL_s_Off, c201⟩ => q_pickK false rfl c_1 rfl) ?_
      refine HA.val (k := 16) (v := .bool (!r_5)) rfl rfl (by kernel_rfl) (by kernel_rfl) (want_none) rfl (fun _ ⟨hL_s_Off, c201⟩ => q_move rfl) ?_
      rcases Bool.eq_false_or_eq_true (!r_5) with c_2 | c_2
      · replace hM := hM.1 c_2
        refine HA.past (k := 17) rfl rfl (by kernel_rfl) (by kernel_rfl) (past_by rfl rfl c_2) rfl ?_
        refine HA.past (k := 18) rfl rfl (by kernel_rfl) (by kernel_rfl) (past_by rfl rfl c_2) rfl ?_
        refine HA.past (k := 19) rfl rfl (by kernel_rfl) (by kernel_rfl) (past_by rfl rfl c_2) rfl ?_
        refine HA.past (k := 20) rfl rfl (by kernel_rfl) (by kernel_rfl) (past_by rfl rfl c_2) rfl ?_
        refine HA.past (k := 21) rfl rfl (by kernel_rfl) (by kernel_rfl) (past_undef rfl rfl) rfl ?_
        refine HA.past (k := 22) rfl rfl (by kernel_rfl) (by kernel_rfl) (past_undef rfl rfl) rfl ?_
        refine HA.past (k := 23) rfl rfl (by kernel_rfl) (by kernel_rfl) (past_undef rfl rfl) rfl ?_
        refine HA.past (k := 24) rfl rfl (by kernel_rfl) (by kernel_rfl) (past_undef rfl rfl) rfl ?_
        refine HA.past (k := 25) rfl rfl (by kernel_rfl) (by kernel_rfl) (past_by rfl rfl c_2) rfl ?_
        refine HA.val (k := 26) (v := .bool true) rfl rfl (by kernel_rfl) (by kernel_rfl) (want_none) rfl (fun _ ⟨hL_s_Off, c201⟩ => q_pickK true rfl c_2 rfl) ?_
        refine HA.nil ⟨⟨hL_s_Off.is, (hS.box 0 rfl)⟩, (Go.Wk.at_nil _ _)⟩ (by kernel_rfl) (thenQ_normal (?_))
        refine HW.condT rfl ?_
        refine HW.seq ?_
        refine HW.region ?_
        refine HO.val (v := .bool false) (want_none) rfl (q_assign rfl) ?_
        refine HO.nil (thenQ_normal (?_))
        refine HW.ret (thenQ_ret (?_))
        refine ⟨.inr rfl, .bool false, res1 rfl (rt rfl), ?_⟩
        replace hS : St F_4 (fr) h_5 := hS.perm2 [] 1 rfl rfl
        exact ⟨F_4, false, rfl, hK, hS, hL_s_On, hL_s_Off, hM⟩
      · replace hM := hM.2 c_2
        refine HA.val (k := 17) (v := .pointer (some ⟨b_1, 0, none⟩)) rfl rfl (by kernel_rfl) (by kernel_rfl) (want_by rfl rfl c_2) rfl (fun _ ⟨hL_s_Off, c201⟩ => q_fieldAddr fa_24_0 rfl rfl) ?_
        refine HA.val (k := 18) (v := .bool s_Exclude) rfl rfl (by kernel_rfl) (by kernel_rfl) (want_by rfl rfl c_2) rfl (fun _ ⟨hL_s_Off, c201⟩ => q_load to_4 rfl (Blk.cell c201 rfl)) ?_
        refine HA.val (k := 19) (v := .bool (!s_Exclude)) rfl rfl (by kernel_rfl) (by kernel_rfl) (want_by rfl rfl c_2) rfl (fun _ ⟨hL_s_Off, c201⟩ => q_not rfl) ?_
        refine HA.val (k := 20) (v := .bool (!s_Exclude)) rfl rfl (by kernel_rfl) (by kernel_rfl) (want_by rfl rfl c_2) rfl (fun _ ⟨hL_s_Off, c201⟩ => q_move rfl) ?_
        rcases Bool.eq_false_or_eq_true (!s_Exclude) with c_3 | c_3
        · replace hM := hM.1 c_3
          refine HA.val (k := 21) (v := .pointer (some ⟨b_1, 2, none⟩)) rfl rfl (by kernel_rfl) (by kernel_rfl) (want_by rfl rfl c_3) rfl (fun _ ⟨hL_s_Off, c201⟩ => q_fieldAddr fa_24_2 rfl rfl) ?_
          refine HA.val (k := 22) (v := vs_Off) rfl rfl (by kernel_rfl) (by kernel_rfl) (want_by rfl rfl c_3) rfl (fun _ ⟨hL_s_Off, c201⟩ => q_load to_22 rfl (Blk.cell c201 rfl)) ?_
          refine HA.val (k := 23) (v := .int .i64 (s_Off.length : Int)) rfl rfl (by kernel_rfl) (by kernel_rfl) (want_by rfl rfl c_3) rfl (fun _ ⟨hL_s_Off, c201⟩ => q_len ts_22 (shp hL_s_Off) rfl rfl) ?_
          refine HA.val (k := 24) (v := .bool (decide (0 < (s_Off.length : Int)))) rfl rfl (by kernel_rfl) (by kernel_rfl) (want_by rfl rfl c_3) rfl (fun _ ⟨hL_s_Off, c201⟩ => q_gtr rfl rfl) ?_
          refine HA.val (k := 25) (v := .bool (decide (0 < (s_Off.length : Int)))) rfl rfl (by kernel_rfl) (by kernel_rfl) (want_by rfl rfl c_2) rfl (fun _ ⟨hL_s_Off, c201⟩ => q_pickK true rfl c_3 rfl) ?_
          refine HA.val (k := 26) (v := .bool (decide (0 < (s_Off.length : Int)))) rfl rfl (by kernel_rfl) (by kernel_rfl) (want_none) rfl (fun _ ⟨hL_s_Off, c201⟩ => q_pickK false rfl c_2 rfl) ?_
          refine HA.nil ⟨⟨hL_s_Off.is, (hS.box 0 rfl)⟩, (Go.Wk.at_nil _ _)⟩ (by kernel_rfl) (thenQ_normal (?_))
          refine HW.cond (decide (0 < (s_Off.length : Int))) rfl (fun c_4 => ?_) (fun c_4 => ?_)
          · replace hM := hM.1 (of_decide_eq_true c_4)
            refine HW.seq ?_
            refine HW.region ?_
            refine HO.val (v := .bool false) (want_none) rfl (q_assign rfl) ?_
            refine HO.nil (thenQ_normal (?_))
            refine HW.ret (thenQ_ret (?_))
            refine ⟨.inr rfl, .bool false, res1 rfl (rt rfl), ?_⟩
            replace hS : St F_4 (fr) h_5 := hS.perm2 [] 1 rfl rfl
            exact ⟨F_4, false, rfl, hK, hS, hL_s_On, hL_s_Off, hM⟩
          · replace hM := hM.2 (of_decide_eq_false c_4)
            refine HW.skip (thenQ_normal (?_))
            exact ⟨F_4, rfl, rfl, hK, hS, hL_s_On, hL_s_Off, hM⟩
        · replace hM := hM.2 c_3
          refine HA.past (k := 21) rfl rfl (by kernel_rfl) (by kernel_rfl) (past_by rfl rfl c_3) rfl ?_
          refine HA.past (k := 22) rfl rfl (by kernel_rfl) (by kernel_rfl) (past_by rfl rfl c_3) rfl ?_
          refine HA.past (k := 23) rfl rfl (by kernel_rfl) (by kernel_rfl) (past_by rfl rfl c_3) rfl ?_
          refine HA.past (k := 24) rfl rfl (by kernel_rfl) (by kernel_rfl) (past_by rfl rfl c_3) rfl ?_
          refine HA.val (k := 25) (v := .bool false) rfl rfl (by kernel_rfl) (by kernel_rfl) (want_by rfl rfl c_2) rfl (fun _ ⟨hL_s_Off, c201⟩ => q_pickK false rfl c_3 rfl) ?_
          refine HA.val (k := 26) (v := .bool false) rfl rfl (by kernel_rfl) (by kernel_rfl) (want_none) rfl (fun _ ⟨hL_s_Off, c201⟩ => q_pickK false rfl c_2 rfl) ?_
          refine HA.nil ⟨⟨hL_s_Off.is, (hS.box 0 rfl)⟩, (Go.Wk.at_nil _ _)⟩ (by kernel_rfl) (thenQ_normal (?_))
          refine HW.condF rfl ?_
          refine HW.skip (thenQ_normal (?_))
          exact ⟨F_4, rfl, rfl, hK, hS, hL_s_On, hL_s_Off, hM⟩
  · rintro f_1 h_6 ⟨F_5, e1, e2, hK, hS, hL_s_On, hL_s_Off, hM⟩
    unfold ref15_Good_j1 at hM
    refine HW.fr [(1, .pointer (some ⟨b_1, 0, none⟩)), (2, .bool false)] ⟨e1, e2, trivial⟩ ?_
    refine HW.seq ?_
    refine HW.region ?_
    refine HO.val (v := .pointer (some ⟨b_1, 1, none⟩)) (want_none) rfl (q_fieldAddr fa_24_1 rfl rfl) ?_
    refine HO.val (v := vs_On) (want_none) rfl (q_load to_22 rfl (Blk.cell (hS.box 0 rfl) rfl)) ?_
    refine HO.val (v := .pointer (some ⟨b_1, 2, none⟩)) (want_none) rfl (q_fieldAddr fa_24_2 rfl rfl) ?_
    refine HO.val (v := vs_Off) (want_none) rfl (q_load to_22 rfl (Blk.cell (hS.box 0 rfl) rfl)) ?_
    refine HO.call (want_none) rfl (ec en_42 rfl rfl) (ref11_Pick_walk (fr := (Ow.box b_1 24 #[.bool s_Exclude, vs_On, vs_Off] :: fr)) s_On s_Off true vs_On vs_Off hS hL_s_On hL_s_Off hM) ?_
    rintro vr_3 h_7 ⟨F_6, r_6, _, rfl, hk, hS, _, _, hM⟩
    replace hK := hK.trans hk
    replace hL_s_On := hL_s_On.kp hk
    replace hL_s_Off := hL_s_Off.kp hk
    refine HO.val (v := .int .i64 (r_6.length : Int)) (want_none) rfl (q_len ts_22 (shp (hS.own 0 rfl).slice) rfl rfl) ?_
    refine HO.val (v := .bool (decide ((r_6.length : Int) = 0))) (want_none) rfl (q_eql rfl rfl) ?_
    refine HO.val (v := .bool (decide ((r_6.length : Int) = 0))) (want_none) rfl (q_assign rfl) ?_
    refine HO.nil (thenQ_normal (?_))
    refine HW.ret (?_)
    refine ⟨.inr rfl, .bool (decide ((r_6.length : Int) = 0)), res1 rfl (rt rfl), ?_⟩
    replace hS : St F_6 (fr) h_7 := hS.perm2 [] 2 rfl rfl
    exact ⟨F_6, decide ((r_6.length : Int) = 0), rfl, hK, hS, hL_s_On, hL_s_Off, hM⟩
end Go.Wk
