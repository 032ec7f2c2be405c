/-
fold's desk: the value of a function of two values.
-/
import Derived.Test.YtkhfddodmjnecaaGreatDoorZFoldDoes37
set_option linter.all false
namespace Go.Proofs.YtkhfddodmjnecaaGreatDoor
section
open Go.ChangeShapes Go.WideShapes Go.ChangeAt Go.RowKit Go.Maps
set_option maxHeartbeats 16000000
set_option maxRecDepth 100000
theorem kyW_of {x:Ky} (h1:I64 x.op) (h2:I64 x.fn) (h3:I64 x.a) (h4:I64 x.b) (h5:I64 x.obj) (h6:I64 x.off) (h7:I64 x.size) (h8:0≤x.num∧x.num<4294967296) (h9:I64 x.mem):KyW x:=fun l hl=>by
 unfold I64 at *
 simp only [keyCs,List.mem_cons,List.not_mem_nil,or_false] at hl
 rcases hl with rfl|rfl|rfl|rfl|rfl|rfl|rfl|rfl|rfl
 case inr.inr.inr.inr.inr.inr.inr.inl=>exact WalkArith.wf_u32 (by omega)
 all_goals exact WalkArith.wf_i64 (by omega)
theorem i64_nat {x:Int} (h: -1000000000000≤x∧x≤1000000000000):I64 x:=⟨by omega,by omega⟩
theorem boolTF (b:Bool):b=false∨b=true:=by cases b <;> simp
theorem i64_lit {x:Int} (k:Int) (e:x=k) (h: -1000000000000≤k∧k≤1000000000000:=by decide):I64 x:=i64_nat (e ▸ h)
theorem const_c (w:World) (S:Nat→Prop) (q:Dkb) (c:Nat) (R:Int) (d:Dk) (n:Int) (h:DkM w S q c R d) (hc:c+3≤1000000000) (hn:0≤n∧n<4294967296) :
  Calls Tryz.prog 133 #[.pointer (some ⟨q.bd,0,none⟩),.int .u32 n] w (DkQ S q (c+3) R (.int .i64 (constD d n).1) (constD d n).2 w):=by
 have EN:=Lib.hid (named_c w S q c R d (kyC n) h (by omega) (kyW_of (i64_lit 1 rfl) (i64_lit 0 rfl) (i64_lit 0 rfl) (i64_lit 0 rfl) (i64_lit 0 rfl) (i64_lit 0 rfl) (i64_lit 0 rfl) hn (i64_lit 0 rfl)))
 have HV:=Lib.hid (h.B.named (kyC n))
 have HD:Hid (constD d n=((namedD d (kyC n)).1,setNum (namedD d (kyC n)).2 (namedD d (kyC n)).1 n)):=rfl
 rw [HD.out]
 clear h HD
 generalize namedD d (kyC n)=nd at *
 obtain ⟨v,d1⟩:=nd
 unfold keyV kyC at EN
 dsimp only at EN HV ⊢
 go_enter Tryz.func133,Tryz.ntmps133
 go_wp2_with fail
 refine EN.out.mono ?_
 rintro e w1 ⟨rfl,S1,h1,p1⟩
 have H1:=Lib.hid h1
 have HP1:=Lib.hid p1
 have hbd:=h1.bd
 clear h1 p1
 obtain ⟨y0,y1,y2,y3,y4,y5,l0⟩:=cl6 H1.out.st
 obtain ⟨vf,hx⟩:=H1.out
 have HX:=Lib.hid hx
 clear hx
 obtain ⟨-,hv1,hv2⟩:=HV.out
 dsimp only at hv1 hv2
 have hwv:KyI.W v:=WalkArith.wf_i64 (by omega)
 have hcm:c+2<maxLen:=by unfold maxLen;omega
 go_wp2_with (at_mapUpdate;refine MapH.put HX.out.mn Tryz.underlying125 v (.int .u32 n) hwv hcm rfl _ _ _ rfl rfl rfl rfl ?_;intro w2 hm2 hg2)
 obtain ⟨hx2,px⟩:=HX.out.setNum ⟨hv1,hv2⟩ hn hg2 (hm2.ext fun y=>by split <;> rfl)
 have HX2:=Lib.hid hx2
 have HPX:=Lib.hid px
 clear hm2 hg2 hx2 px
 go_wp2_with fail
 go_ret
 exact ⟨rfl,S1,⟨vf,HX2.out⟩,HP1.out.trans HPX.out⟩
def sameF (si:Bool) (m:Int) (too:Bool) (n fn a b:Int):Int:=if (si && ((m ==0) && ((fn ==1) || ((fn ==2) || ((fn ==7) || ((fn ==8) || ((fn ==9) || (fn ==10))))))))=true then a else if (si && ((m ==1) && ((fn ==3) || (fn ==4))))=true then a else if (too && ((n ==0) && ((fn ==1) || ((fn ==7) || (fn ==8)))))=true then b else if (too && ((n ==1) && (fn ==3)))=true then b else if ((a ==b) && ((fn ==6) || (fn ==7)))=true then a else 0
theorem sameF_eq (d:Dk) (fn a b:Int):sameF (d.num b).isSome ((d.num b).getD 0) (d.num a).isSome ((d.num a).getD 0) fn a b=sameD d fn a b:=by
 unfold sameF sameD
 cases d.num b <;> cases d.num a <;> simp
theorem same_d (w:World) (S:Nat→Prop) (q:Dkb) (c:Nat) (R:Int) (d:Dk) (fn a b:Int) (h:DkM w S q c R d) (hc:c≤1000000000) (ha:1≤a∧a≤d.vs) (hb:1≤b∧b≤d.vs) :
  Calls Tryz.prog 159 #[.pointer (some ⟨q.bd,0,none⟩),.int .i64 fn,.int .i64 a,.int .i64 b] w fun e w'=>e=.returned (.int .i64 (sameD d fn a b))∧w'=w:=by
 have hbd:=h.bd
 obtain ⟨vf,h⟩:=h
 have hla:=h.lookNum (v:=a) ⟨by omega,by omega⟩
 have hlb:=h.lookNum (v:=b) ⟨by omega,by omega⟩
 obtain ⟨y0,y1,y2,y3,y4,y5,l0⟩:=cl6 h.st
 have HF:=Lib.hid (sameF_eq d fn a b)
 rw [←HF.out]
 clear HF h
 generalize (d.num b).isSome=si at *
 generalize (d.num b).getD 0=m at *
 generalize (d.num a).isSome=too at *
 generalize (d.num a).getD 0=n at *
 cases si <;> cases too
 ·go_enter Tryz.func159,Tryz.ntmps159
  go_upto_region 11 with (fail)
  go_cut [107] from 108 to 118 (fun x wx=>x=.bool ((a ==b) && ((fn ==6) || (fn ==7)))∧w=wx)
  case first=>
   rcases boolTF ((a ==b)) with i0|i0
   ·go_wp2_with fail
    go_meet
    case rel=>exact ⟨by simp [i0],rfl⟩
   ·rcases boolTF ((fn ==6)) with k6|k6
    ·rcases boolTF ((fn ==7)) with k7|k7
     ·go_wp2_with fail
      go_meet
      case rel=>exact ⟨by simp [i0,k6,k7],rfl⟩
     ·go_wp2_with fail
      go_meet
      case rel=>exact ⟨by simp [i0,k6,k7],rfl⟩
    ·go_wp2_with fail
     go_meet
     case rel=>exact ⟨by simp [i0,k6],rfl⟩
  case rest=>
   obtain ⟨rfl,rfl⟩:=hcut
   generalize hc107:((a ==b) && ((fn ==6) || (fn ==7)))=z107 at *
   cases z107
   ·have HR:Hid (sameF false m false n fn a b=0):=by
     show _=_
     unfold sameF;simp only [hc107,Bool.true_and,Bool.false_and,Bool.false_eq_true,if_false]
    go_wp2_with fail
    go_ret
    exact ⟨by rw [HR.out];rfl,rfl⟩
   ·have HR:Hid (sameF false m false n fn a b=a):=by
     show _=_
     unfold sameF;simp only [hc107,Bool.true_and,Bool.false_and,Bool.false_eq_true,if_false,if_true]
    go_wp2_with fail
    go_ret
    exact ⟨by rw [HR.out];rfl,rfl⟩
 ·go_enter Tryz.func159,Tryz.ntmps159
  go_upto_region 7 with (fail)
  go_cut [77] from 78 to 94 (fun x wx=>x=.bool ((n ==0) && ((fn ==1) || ((fn ==7) || (fn ==8))))∧w=wx)
  case first=>
   rcases boolTF ((n ==0)) with i1|i1
   ·go_wp2_with fail
    go_meet
    case rel=>exact ⟨by simp [i1],rfl⟩
   ·rcases boolTF ((fn ==1)) with k1|k1
    ·rcases boolTF ((fn ==7)) with k7|k7
     ·rcases boolTF ((fn ==8)) with k8|k8
      ·go_wp2_with fail
       go_meet
       case rel=>exact ⟨by simp [i1,k1,k7,k8],rfl⟩
      ·go_wp2_with fail
       go_meet
       case rel=>exact ⟨by simp [i1,k1,k7,k8],rfl⟩
     ·go_wp2_with fail
      go_meet
      case rel=>exact ⟨by simp [i1,k1,k7],rfl⟩
    ·go_wp2_with fail
     go_meet
     case rel=>exact ⟨by simp [i1,k1],rfl⟩
  case rest=>
   obtain ⟨rfl,rfl⟩:=hcut
   generalize hc77:((n ==0) && ((fn ==1) || ((fn ==7) || (fn ==8))))=z77 at *
   cases z77
   ·go_upto_region 9 with (fail)
    go_cut [96] from 97 to 105 (fun x wx=>x=.bool ((n ==1) && (fn ==3))∧w=wx)
    case first=>
     rcases boolTF ((n ==1)) with i1|i1
     ·go_wp2_with fail
      go_meet
      case rel=>exact ⟨by simp [i1],rfl⟩
     ·rcases boolTF ((fn ==3)) with k3|k3
      ·go_wp2_with fail
       go_meet
       case rel=>exact ⟨by simp [i1,k3],rfl⟩
      ·go_wp2_with fail
       go_meet
       case rel=>exact ⟨by simp [i1,k3],rfl⟩
    case rest=>
     obtain ⟨rfl,rfl⟩:=hcut
     generalize hc96:((n ==1) && (fn ==3))=z96 at *
     cases z96
     ·go_upto_region 11 with (fail)
      go_cut [107] from 108 to 118 (fun x wx=>x=.bool ((a ==b) && ((fn ==6) || (fn ==7)))∧w=wx)
      case first=>
       rcases boolTF ((a ==b)) with i0|i0
       ·go_wp2_with fail
        go_meet
        case rel=>exact ⟨by simp [i0],rfl⟩
       ·rcases boolTF ((fn ==6)) with k6|k6
        ·rcases boolTF ((fn ==7)) with k7|k7
         ·go_wp2_with fail
          go_meet
          case rel=>exact ⟨by simp [i0,k6,k7],rfl⟩
         ·go_wp2_with fail
          go_meet
          case rel=>exact ⟨by simp [i0,k6,k7],rfl⟩
        ·go_wp2_with fail
         go_meet
         case rel=>exact ⟨by simp [i0,k6],rfl⟩
      case rest=>
       obtain ⟨rfl,rfl⟩:=hcut
       generalize hc107:((a ==b) && ((fn ==6) || (fn ==7)))=z107 at *
       cases z107
       ·have HR:Hid (sameF false m true n fn a b=0):=by
         show _=_
         unfold sameF;simp only [hc77,hc96,hc107,Bool.true_and,Bool.false_and,Bool.false_eq_true,if_false]
        go_wp2_with fail
        go_ret
        exact ⟨by rw [HR.out];rfl,rfl⟩
       ·have HR:Hid (sameF false m true n fn a b=a):=by
         show _=_
         unfold sameF;simp only [hc77,hc96,hc107,Bool.true_and,Bool.false_and,Bool.false_eq_true,if_false,if_true]
        go_wp2_with fail
        go_ret
        exact ⟨by rw [HR.out];rfl,rfl⟩
     ·have HR:Hid (sameF false m true n fn a b=b):=by
       show _=_
       unfold sameF;simp only [hc77,hc96,Bool.true_and,Bool.false_and,Bool.false_eq_true,if_false,if_true]
      go_wp2_with fail
      go_ret
      exact ⟨by rw [HR.out];rfl,rfl⟩
   ·have HR:Hid (sameF false m true n fn a b=b):=by
     show _=_
     unfold sameF;simp only [hc77,Bool.true_and,Bool.false_and,Bool.false_eq_true,if_false,if_true]
    go_wp2_with fail
    go_ret
    exact ⟨by rw [HR.out];rfl,rfl⟩
 ·go_enter Tryz.func159,Tryz.ntmps159
  go_upto_region 3 with (fail)
  go_cut [31] from 32 to 60 (fun x wx=>x=.bool ((m ==0) && ((fn ==1) || ((fn ==2) || ((fn ==7) || ((fn ==8) || ((fn ==9) || (fn ==10)))))))∧w=wx)
  case first=>
   rcases boolTF ((m ==0)) with i1|i1
   ·go_wp2_with fail
    go_meet
    case rel=>exact ⟨by simp [i1],rfl⟩
   ·rcases boolTF ((fn ==1)) with k1|k1
    ·rcases boolTF ((fn ==2)) with k2|k2
     ·rcases boolTF ((fn ==7)) with k7|k7
      ·rcases boolTF ((fn ==8)) with k8|k8
       ·rcases boolTF ((fn ==9)) with k9|k9
        ·rcases boolTF ((fn ==10)) with k10|k10
         ·go_wp2_with fail
          go_meet
          case rel=>exact ⟨by simp [i1,k1,k2,k7,k8,k9,k10],rfl⟩
         ·go_wp2_with fail
          go_meet
          case rel=>exact ⟨by simp [i1,k1,k2,k7,k8,k9,k10],rfl⟩
        ·go_wp2_with fail
         go_meet
         case rel=>exact ⟨by simp [i1,k1,k2,k7,k8,k9],rfl⟩
       ·go_wp2_with fail
        go_meet
        case rel=>exact ⟨by simp [i1,k1,k2,k7,k8],rfl⟩
      ·go_wp2_with fail
       go_meet
       case rel=>exact ⟨by simp [i1,k1,k2,k7],rfl⟩
     ·go_wp2_with fail
      go_meet
      case rel=>exact ⟨by simp [i1,k1,k2],rfl⟩
    ·go_wp2_with fail
     go_meet
     case rel=>exact ⟨by simp [i1,k1],rfl⟩
  case rest=>
   obtain ⟨rfl,rfl⟩:=hcut
   generalize hc31:((m ==0) && ((fn ==1) || ((fn ==2) || ((fn ==7) || ((fn ==8) || ((fn ==9) || (fn ==10)))))))=z31 at *
   cases z31
   ·go_upto_region 5 with (fail)
    go_cut [62] from 63 to 75 (fun x wx=>x=.bool ((m ==1) && ((fn ==3) || (fn ==4)))∧w=wx)
    case first=>
     rcases boolTF ((m ==1)) with i1|i1
     ·go_wp2_with fail
      go_meet
      case rel=>exact ⟨by simp [i1],rfl⟩
     ·rcases boolTF ((fn ==3)) with k3|k3
      ·rcases boolTF ((fn ==4)) with k4|k4
       ·go_wp2_with fail
        go_meet
        case rel=>exact ⟨by simp [i1,k3,k4],rfl⟩
       ·go_wp2_with fail
        go_meet
        case rel=>exact ⟨by simp [i1,k3,k4],rfl⟩
      ·go_wp2_with fail
       go_meet
       case rel=>exact ⟨by simp [i1,k3],rfl⟩
    case rest=>
     obtain ⟨rfl,rfl⟩:=hcut
     generalize hc62:((m ==1) && ((fn ==3) || (fn ==4)))=z62 at *
     cases z62
     ·go_upto_region 11 with (fail)
      go_cut [107] from 108 to 118 (fun x wx=>x=.bool ((a ==b) && ((fn ==6) || (fn ==7)))∧w=wx)
      case first=>
       rcases boolTF ((a ==b)) with i0|i0
       ·go_wp2_with fail
        go_meet
        case rel=>exact ⟨by simp [i0],rfl⟩
       ·rcases boolTF ((fn ==6)) with k6|k6
        ·rcases boolTF ((fn ==7)) with k7|k7
         ·go_wp2_with fail
          go_meet
          case rel=>exact ⟨by simp [i0,k6,k7],rfl⟩
         ·go_wp2_with fail
          go_meet
          case rel=>exact ⟨by simp [i0,k6,k7],rfl⟩
        ·go_wp2_with fail
         go_meet
         case rel=>exact ⟨by simp [i0,k6],rfl⟩
      case rest=>
       obtain ⟨rfl,rfl⟩:=hcut
       generalize hc107:((a ==b) && ((fn ==6) || (fn ==7)))=z107 at *
       cases z107
       ·have HR:Hid (sameF true m false n fn a b=0):=by
         show _=_
         unfold sameF;simp only [hc31,hc62,hc107,Bool.true_and,Bool.false_and,Bool.false_eq_true,if_false]
        go_wp2_with fail
        go_ret
        exact ⟨by rw [HR.out];rfl,rfl⟩
       ·have HR:Hid (sameF true m false n fn a b=a):=by
         show _=_
         unfold sameF;simp only [hc31,hc62,hc107,Bool.true_and,Bool.false_and,Bool.false_eq_true,if_false,if_true]
        go_wp2_with fail
        go_ret
        exact ⟨by rw [HR.out];rfl,rfl⟩
     ·have HR:Hid (sameF true m false n fn a b=a):=by
       show _=_
       unfold sameF;simp only [hc31,hc62,Bool.true_and,Bool.false_and,Bool.false_eq_true,if_false,if_true]
      go_wp2_with fail
      go_ret
      exact ⟨by rw [HR.out];rfl,rfl⟩
   ·have HR:Hid (sameF true m false n fn a b=a):=by
     show _=_
     unfold sameF;simp only [hc31,Bool.true_and,Bool.false_and,Bool.false_eq_true,if_false,if_true]
    go_wp2_with fail
    go_ret
    exact ⟨by rw [HR.out];rfl,rfl⟩
 ·go_enter Tryz.func159,Tryz.ntmps159
  go_upto_region 3 with (fail)
  go_cut [31] from 32 to 60 (fun x wx=>x=.bool ((m ==0) && ((fn ==1) || ((fn ==2) || ((fn ==7) || ((fn ==8) || ((fn ==9) || (fn ==10)))))))∧w=wx)
  case first=>
   rcases boolTF ((m ==0)) with i1|i1
   ·go_wp2_with fail
    go_meet
    case rel=>exact ⟨by simp [i1],rfl⟩
   ·rcases boolTF ((fn ==1)) with k1|k1
    ·rcases boolTF ((fn ==2)) with k2|k2
     ·rcases boolTF ((fn ==7)) with k7|k7
      ·rcases boolTF ((fn ==8)) with k8|k8
       ·rcases boolTF ((fn ==9)) with k9|k9
        ·rcases boolTF ((fn ==10)) with k10|k10
         ·go_wp2_with fail
          go_meet
          case rel=>exact ⟨by simp [i1,k1,k2,k7,k8,k9,k10],rfl⟩
         ·go_wp2_with fail
          go_meet
          case rel=>exact ⟨by simp [i1,k1,k2,k7,k8,k9,k10],rfl⟩
        ·go_wp2_with fail
         go_meet
         case rel=>exact ⟨by simp [i1,k1,k2,k7,k8,k9],rfl⟩
       ·go_wp2_with fail
        go_meet
        case rel=>exact ⟨by simp [i1,k1,k2,k7,k8],rfl⟩
      ·go_wp2_with fail
       go_meet
       case rel=>exact ⟨by simp [i1,k1,k2,k7],rfl⟩
     ·go_wp2_with fail
      go_meet
      case rel=>exact ⟨by simp [i1,k1,k2],rfl⟩
    ·go_wp2_with fail
     go_meet
     case rel=>exact ⟨by simp [i1,k1],rfl⟩
  case rest=>
   obtain ⟨rfl,rfl⟩:=hcut
   generalize hc31:((m ==0) && ((fn ==1) || ((fn ==2) || ((fn ==7) || ((fn ==8) || ((fn ==9) || (fn ==10)))))))=z31 at *
   cases z31
   ·go_upto_region 5 with (fail)
    go_cut [62] from 63 to 75 (fun x wx=>x=.bool ((m ==1) && ((fn ==3) || (fn ==4)))∧w=wx)
    case first=>
     rcases boolTF ((m ==1)) with i1|i1
     ·go_wp2_with fail
      go_meet
      case rel=>exact ⟨by simp [i1],rfl⟩
     ·rcases boolTF ((fn ==3)) with k3|k3
      ·rcases boolTF ((fn ==4)) with k4|k4
       ·go_wp2_with fail
        go_meet
        case rel=>exact ⟨by simp [i1,k3,k4],rfl⟩
       ·go_wp2_with fail
        go_meet
        case rel=>exact ⟨by simp [i1,k3,k4],rfl⟩
      ·go_wp2_with fail
       go_meet
       case rel=>exact ⟨by simp [i1,k3],rfl⟩
    case rest=>
     obtain ⟨rfl,rfl⟩:=hcut
     generalize hc62:((m ==1) && ((fn ==3) || (fn ==4)))=z62 at *
     cases z62
     ·go_upto_region 7 with (fail)
      go_cut [77] from 78 to 94 (fun x wx=>x=.bool ((n ==0) && ((fn ==1) || ((fn ==7) || (fn ==8))))∧w=wx)
      case first=>
       rcases boolTF ((n ==0)) with i1|i1
       ·go_wp2_with fail
        go_meet
        case rel=>exact ⟨by simp [i1],rfl⟩
       ·rcases boolTF ((fn ==1)) with k1|k1
        ·rcases boolTF ((fn ==7)) with k7|k7
         ·rcases boolTF ((fn ==8)) with k8|k8
          ·go_wp2_with fail
           go_meet
           case rel=>exact ⟨by simp [i1,k1,k7,k8],rfl⟩
          ·go_wp2_with fail
           go_meet
           case rel=>exact ⟨by simp [i1,k1,k7,k8],rfl⟩
         ·go_wp2_with fail
          go_meet
          case rel=>exact ⟨by simp [i1,k1,k7],rfl⟩
        ·go_wp2_with fail
         go_meet
         case rel=>exact ⟨by simp [i1,k1],rfl⟩
      case rest=>
       obtain ⟨rfl,rfl⟩:=hcut
       generalize hc77:((n ==0) && ((fn ==1) || ((fn ==7) || (fn ==8))))=z77 at *
       cases z77
       ·go_upto_region 9 with (fail)
        go_cut [96] from 97 to 105 (fun x wx=>x=.bool ((n ==1) && (fn ==3))∧w=wx)
        case first=>
         rcases boolTF ((n ==1)) with i1|i1
         ·go_wp2_with fail
          go_meet
          case rel=>exact ⟨by simp [i1],rfl⟩
         ·rcases boolTF ((fn ==3)) with k3|k3
          ·go_wp2_with fail
           go_meet
           case rel=>exact ⟨by simp [i1,k3],rfl⟩
          ·go_wp2_with fail
           go_meet
           case rel=>exact ⟨by simp [i1,k3],rfl⟩
        case rest=>
         obtain ⟨rfl,rfl⟩:=hcut
         generalize hc96:((n ==1) && (fn ==3))=z96 at *
         cases z96
         ·go_upto_region 11 with (fail)
          go_cut [107] from 108 to 118 (fun x wx=>x=.bool ((a ==b) && ((fn ==6) || (fn ==7)))∧w=wx)
          case first=>
           rcases boolTF ((a ==b)) with i0|i0
           ·go_wp2_with fail
            go_meet
            case rel=>exact ⟨by simp [i0],rfl⟩
           ·rcases boolTF ((fn ==6)) with k6|k6
            ·rcases boolTF ((fn ==7)) with k7|k7
             ·go_wp2_with fail
              go_meet
              case rel=>exact ⟨by simp [i0,k6,k7],rfl⟩
             ·go_wp2_with fail
              go_meet
              case rel=>exact ⟨by simp [i0,k6,k7],rfl⟩
            ·go_wp2_with fail
             go_meet
             case rel=>exact ⟨by simp [i0,k6],rfl⟩
          case rest=>
           obtain ⟨rfl,rfl⟩:=hcut
           generalize hc107:((a ==b) && ((fn ==6) || (fn ==7)))=z107 at *
           cases z107
           ·have HR:Hid (sameF true m true n fn a b=0):=by
             show _=_
             unfold sameF;simp only [hc31,hc62,hc77,hc96,hc107,Bool.true_and,Bool.false_and,Bool.false_eq_true,if_false]
            go_wp2_with fail
            go_ret
            exact ⟨by rw [HR.out];rfl,rfl⟩
           ·have HR:Hid (sameF true m true n fn a b=a):=by
             show _=_
             unfold sameF;simp only [hc31,hc62,hc77,hc96,hc107,Bool.true_and,Bool.false_and,Bool.false_eq_true,if_false,if_true]
            go_wp2_with fail
            go_ret
            exact ⟨by rw [HR.out];rfl,rfl⟩
         ·have HR:Hid (sameF true m true n fn a b=b):=by
           show _=_
           unfold sameF;simp only [hc31,hc62,hc77,hc96,Bool.true_and,Bool.false_and,Bool.false_eq_true,if_false,if_true]
          go_wp2_with fail
          go_ret
          exact ⟨by rw [HR.out];rfl,rfl⟩
       ·have HR:Hid (sameF true m true n fn a b=b):=by
         show _=_
         unfold sameF;simp only [hc31,hc62,hc77,Bool.true_and,Bool.false_and,Bool.false_eq_true,if_false,if_true]
        go_wp2_with fail
        go_ret
        exact ⟨by rw [HR.out];rfl,rfl⟩
     ·have HR:Hid (sameF true m true n fn a b=a):=by
       show _=_
       unfold sameF;simp only [hc31,hc62,Bool.true_and,Bool.false_and,Bool.false_eq_true,if_false,if_true]
      go_wp2_with fail
      go_ret
      exact ⟨by rw [HR.out];rfl,rfl⟩
   ·have HR:Hid (sameF true m true n fn a b=a):=by
     show _=_
     unfold sameF;simp only [hc31,Bool.true_and,Bool.false_and,Bool.false_eq_true,if_false,if_true]
    go_wp2_with fail
    go_ret
    exact ⟨by rw [HR.out];rfl,rfl⟩
end
section
open Go.ChangeShapes Go.WideShapes Go.ChangeAt Go.RowKit Go.Maps
set_option maxHeartbeats 16000000
set_option maxRecDepth 100000
def swapsB (fn:Int):Bool:=fn ==1 || (fn ==3 || (fn ==6 || (fn ==7 || (fn ==8 || (fn ==11 || fn ==12)))))
theorem swapsB_eq (fn:Int):swapsB fn=swapsF fn:=by
 unfold swapsB swapsF
 rw [Bool.eq_iff_iff]
 simp
theorem swaps_c (fn:Int) (w:World):Calls Tryz.prog 160 #[.int .i64 fn] w fun e w'=>e=.returned (.bool (swapsF fn))∧w'=w:=by
 go_enter Tryz.func160,Tryz.ntmps160
 rcases boolTF (fn ==1) with k1|k1
 ·rcases boolTF (fn ==3) with k3|k3
  ·rcases boolTF (fn ==6) with k6|k6
   ·rcases boolTF (fn ==7) with k7|k7
    ·rcases boolTF (fn ==8) with k8|k8
     ·rcases boolTF (fn ==11) with k11|k11
      ·rcases boolTF (fn ==12) with k12|k12
       ·go_wp2_with fail
        go_ret
        exact ⟨by rw [show swapsF fn=swapsB fn by rw [swapsB_eq]];unfold swapsB;simp only [k1,k3,k6,k7,k8,k11,k12];rfl,rfl⟩
       ·go_wp2_with fail
        go_ret
        exact ⟨by rw [show swapsF fn=swapsB fn by rw [swapsB_eq]];unfold swapsB;simp only [k1,k3,k6,k7,k8,k11,k12];rfl,rfl⟩
      ·go_wp2_with fail
       go_ret
       exact ⟨by rw [show swapsF fn=swapsB fn by rw [swapsB_eq]];unfold swapsB;simp only [k1,k3,k6,k7,k8,k11];rfl,rfl⟩
     ·go_wp2_with fail
      go_ret
      exact ⟨by rw [show swapsF fn=swapsB fn by rw [swapsB_eq]];unfold swapsB;simp only [k1,k3,k6,k7,k8];rfl,rfl⟩
    ·go_wp2_with fail
     go_ret
     exact ⟨by rw [show swapsF fn=swapsB fn by rw [swapsB_eq]];unfold swapsB;simp only [k1,k3,k6,k7];rfl,rfl⟩
   ·go_wp2_with fail
    go_ret
    exact ⟨by rw [show swapsF fn=swapsB fn by rw [swapsB_eq]];unfold swapsB;simp only [k1,k3,k6];rfl,rfl⟩
  ·go_wp2_with fail
   go_ret
   exact ⟨by rw [show swapsF fn=swapsB fn by rw [swapsB_eq]];unfold swapsB;simp only [k1,k3];rfl,rfl⟩
 ·go_wp2_with fail
  go_ret
  exact ⟨by rw [show swapsF fn=swapsB fn by rw [swapsB_eq]];unfold swapsB;simp only [k1];rfl,rfl⟩
theorem two_c (w:World) (S:Nat→Prop) (q:Dkb) (c:Nat) (R:Int) (d:Dk) (fn a b:Int) (h:DkM w S q c R d) (hc:c+3≤1000000000) (hf:I64 fn) (ha:1≤a∧a≤d.vs) (hb:1≤b∧b≤d.vs) :
  Calls Tryz.prog 134 #[.pointer (some ⟨q.bd,0,none⟩),.int .i64 fn,.int .i64 a,.int .i64 b] w (DkQ S q (c+3) R (.int .i64 (twoD d fn a b).1) (twoD d fn a b).2 w):=by
 have hbd:=h.bd
 have H:=Lib.hid h
 have ES:=Lib.hid (same_d w S q c R d fn a b h (by omega) ha hb)
 have EZ:=Lib.hid (const_c w S q c R d 0 h hc ⟨by decide,by decide⟩)
 have EN:Hid (∀ x y,1≤x∧x≤d.vs→1≤y∧y≤d.vs→Calls Tryz.prog 135 #[.pointer (some ⟨q.bd,0,none⟩),.agg #[.int .i64 3,.int .i64 fn,.int .i64 x,.int .i64 y,.int .i64 0,.int .i64 0,.int .i64 0,.int .u32 0,.int .i64 0]] w (DkQ S q (c+2) R (.int .i64 (namedD d (kyB fn x y)).1) (namedD d (kyB fn x y)).2 w)):=fun x y hx hy=>
  named_c w S q c R d (kyB fn x y) h (by omega) (kyW_of (i64_lit 3 rfl) hf (i64_nat (x:=x) (by omega)) (i64_nat (x:=y) (by omega)) (i64_lit 0 rfl) (i64_lit 0 rfl) (i64_lit 0 rfl) ⟨Int.le_refl (0:Int),show (0:Int)<4294967296 by decide⟩ (i64_lit 0 rfl))
 have EC:Hid (∀ n,0≤n∧n<4294967296→Calls Tryz.prog 133 #[.pointer (some ⟨q.bd,0,none⟩),.int .u32 n] w (DkQ S q (c+3) R (.int .i64 (constD d n).1) (constD d n).2 w)):=fun n hn=>const_c w S q c R d n h hc hn
 have HB:=Lib.hid h.B
 obtain ⟨vf,h⟩:=h
 have hla:=h.lookNum (v:=a) ⟨by omega,by omega⟩
 have hlb:=h.lookNum (v:=b) ⟨by omega,by omega⟩
 obtain ⟨y0,y1,y2,y3,y4,y5,l0⟩:=cl6 h.st
 clear h
 cases en:d.num a with
 | none=>
  have HT:Hid (twoD d fn a b=twoN d fn a b):=by show _=_;unfold twoD;rw [en]
  rw [en] at hla
  simp only [Option.isSome_none,Option.getD_none] at hla
  clear en
  generalize (d.num b).isSome=sb at *
  generalize (d.num b).getD 0=nb at *
  go_enter Tryz.func134,Tryz.ntmps134
  go_wp2_with fail
  refine ES.out.mono ?_
  rintro e w' ⟨rfl,rfl⟩
  rcases boolTF (decide (0<sameD d fn a b)) with hz|hz
  ·have HZ:Hid (¬ 0<sameD d fn a b):=of_decide_eq_false hz
   generalize hsv:sameD d fn a b=sv at *
   have HSV:=Lib.hid hsv
   clear hsv
   rcases boolTF (a ==b) with e1|e1
   ·have hno:¬ (a=b∧(fn=2∨fn=8)):=fun z=>by rw [beq_eq_false_iff_ne] at e1;exact e1 z.1
    go_wp2_with fail
    refine (swaps_c fn _).mono ?_
    rintro e w' ⟨rfl,rfl⟩
    cases hs:swapsF fn
    ·have HR:Hid (twoD d fn a b=namedD d (kyB fn a b)):=by
      show _=_
      rw [HT.out];unfold twoN
      rw [HSV.out,if_neg (show ¬ 0<sv by have:=HZ.out;omega),if_neg hno,hs,if_neg (by simp)]
     clear HT HZ hno
     go_wp2_with fail
     refine (EN.out a b ha hb).mono ?_
     rintro e w1 ⟨rfl,S1,h1,p1⟩
     go_wp2_with fail
     go_ret
     rw [HR.out]
     exact ⟨rfl,S1,h1.mono (Nat.le_succ _),p1⟩
    ·rcases boolTF (decide (b<a)) with hl|hl
     ·have HR:Hid (twoD d fn a b=namedD d (kyB fn a b)):=by
       show _=_
       rw [HT.out];unfold twoN
       rw [HSV.out,if_neg (show ¬ 0 < sv by have:=HZ.out;omega),if_neg hno,if_neg (by intro z;exact absurd z.2 (of_decide_eq_false hl))]
      clear HT HZ hno
      go_wp2_with fail
      refine (EN.out a b ha hb).mono ?_
      rintro e w1 ⟨rfl,S1,h1,p1⟩
      go_wp2_with fail
      go_ret
      rw [HR.out]
      exact ⟨rfl,S1,h1.mono (Nat.le_succ _),p1⟩
     ·have HR:Hid (twoD d fn a b=namedD d (kyB fn b a)):=by
       show _=_
       rw [HT.out];unfold twoN
       rw [HSV.out,if_neg (show ¬ 0<sv by have:=HZ.out;omega),if_neg hno,if_pos ⟨hs,of_decide_eq_true hl⟩]
      clear HT HZ hno
      go_wp2_with fail
      refine (EN.out b a hb ha).mono ?_
      rintro e w1 ⟨rfl,S1,h1,p1⟩
      go_wp2_with fail
      go_ret
      rw [HR.out]
      exact ⟨rfl,S1,h1.mono (Nat.le_succ _),p1⟩
   ·rcases boolTF (fn ==2) with e2|e2
    ·rcases boolTF (fn ==8) with e3|e3
     ·have hno:¬ (a=b∧(fn=2∨fn=8)):=fun z=>by
       rw [beq_eq_false_iff_ne] at e2 e3
       exact z.2.elim e2 e3
      go_wp2_with fail
      refine (swaps_c fn _).mono ?_
      rintro e w' ⟨rfl,rfl⟩
      cases hs:swapsF fn
      ·have HR:Hid (twoD d fn a b=namedD d (kyB fn a b)):=by
        show _=_
        rw [HT.out];unfold twoN
        rw [HSV.out,if_neg (show ¬ 0<sv by have:=HZ.out;omega),if_neg hno,hs,if_neg (by simp)]
       clear HT HZ hno
       go_wp2_with fail
       refine (EN.out a b ha hb).mono ?_
       rintro e w1 ⟨rfl,S1,h1,p1⟩
       go_wp2_with fail
       go_ret
       rw [HR.out]
       exact ⟨rfl,S1,h1.mono (Nat.le_succ _),p1⟩
      ·rcases boolTF (decide (b<a)) with hl|hl
       ·have HR:Hid (twoD d fn a b=namedD d (kyB fn a b)):=by
         show _=_
         rw [HT.out];unfold twoN
         rw [HSV.out,if_neg (show ¬ 0 < sv by have:=HZ.out;omega),if_neg hno,if_neg (by intro z;exact absurd z.2 (of_decide_eq_false hl))]
        clear HT HZ hno
        go_wp2_with fail
        refine (EN.out a b ha hb).mono ?_
        rintro e w1 ⟨rfl,S1,h1,p1⟩
        go_wp2_with fail
        go_ret
        rw [HR.out]
        exact ⟨rfl,S1,h1.mono (Nat.le_succ _),p1⟩
       ·have HR:Hid (twoD d fn a b=namedD d (kyB fn b a)):=by
         show _=_
         rw [HT.out];unfold twoN
         rw [HSV.out,if_neg (show ¬ 0<sv by have:=HZ.out;omega),if_neg hno,if_pos ⟨hs,of_decide_eq_true hl⟩]
        clear HT HZ hno
        go_wp2_with fail
        refine (EN.out b a hb ha).mono ?_
        rintro e w1 ⟨rfl,S1,h1,p1⟩
        go_wp2_with fail
        go_ret
        rw [HR.out]
        exact ⟨rfl,S1,h1.mono (Nat.le_succ _),p1⟩
     ·have hyes:a=b∧(fn=2∨fn=8):=⟨beq_iff_eq.1 e1,.inr (beq_iff_eq.1 e3)⟩
      have HR:Hid (twoD d fn a b=constD d 0):=by
       show _=_
       rw [HT.out];unfold twoN
       rw [HSV.out,if_neg (show ¬ 0<sv by have:=HZ.out;omega),if_pos hyes]
      clear HT HZ hyes
      go_wp2_with fail
      refine EZ.out.mono ?_
      rintro e w1 ⟨rfl,S1,h1,p1⟩
      go_wp2_with fail
      go_ret
      rw [HR.out]
      exact ⟨rfl,S1,h1,p1⟩
    ·have hyes:a=b∧(fn=2∨fn=8):=⟨beq_iff_eq.1 e1,.inl (beq_iff_eq.1 e2)⟩
     have HR:Hid (twoD d fn a b=constD d 0):=by
      show _=_
      rw [HT.out];unfold twoN
      rw [HSV.out,if_neg (show ¬ 0<sv by have:=HZ.out;omega),if_pos hyes]
     clear HT HZ hyes
     go_wp2_with fail
     refine EZ.out.mono ?_
     rintro e w1 ⟨rfl,S1,h1,p1⟩
     go_wp2_with fail
     go_ret
     rw [HR.out]
     exact ⟨rfl,S1,h1,p1⟩
  ·have HR:Hid (twoD d fn a b=(sameD d fn a b,d)):=by
    show _=_
    rw [HT.out];unfold twoN
    rw [if_pos (of_decide_eq_true hz)]
   clear HT
   generalize sameD d fn a b=sv at *
   go_wp2_with fail
   go_ret
   rw [HR.out]
   exact ⟨rfl,S,H.out.mono (by omega),Stp.refl _ _⟩
 | some m=>
  cases em:d.num b with
  | none=>
   have HT:Hid (twoD d fn a b=twoN d fn a b):=by show _=_;unfold twoD;rw [en,em]
   rw [en] at hla
   rw [em] at hlb
   simp only [Option.isSome_none,Option.getD_none,Option.isSome_some,Option.getD_some] at hla hlb
   clear en em
   go_enter Tryz.func134,Tryz.ntmps134
   go_wp2_with fail
   refine ES.out.mono ?_
   rintro e w' ⟨rfl,rfl⟩
   rcases boolTF (decide (0<sameD d fn a b)) with hz|hz
   ·have HZ:Hid (¬ 0<sameD d fn a b):=of_decide_eq_false hz
    generalize hsv:sameD d fn a b=sv at *
    have HSV:=Lib.hid hsv
    clear hsv
    rcases boolTF (a ==b) with e1|e1
    ·have hno:¬ (a=b∧(fn=2∨fn=8)):=fun z=>by rw [beq_eq_false_iff_ne] at e1;exact e1 z.1
     go_wp2_with fail
     refine (swaps_c fn _).mono ?_
     rintro e w' ⟨rfl,rfl⟩
     cases hs:swapsF fn
     ·have HR:Hid (twoD d fn a b=namedD d (kyB fn a b)):=by
       show _=_
       rw [HT.out];unfold twoN
       rw [HSV.out,if_neg (show ¬ 0<sv by have:=HZ.out;omega),if_neg hno,hs,if_neg (by simp)]
      clear HT HZ hno
      go_wp2_with fail
      refine (EN.out a b ha hb).mono ?_
      rintro e w1 ⟨rfl,S1,h1,p1⟩
      go_wp2_with fail
      go_ret
      rw [HR.out]
      exact ⟨rfl,S1,h1.mono (Nat.le_succ _),p1⟩
     ·rcases boolTF (decide (b<a)) with hl|hl
      ·have HR:Hid (twoD d fn a b=namedD d (kyB fn a b)):=by
        show _=_
        rw [HT.out];unfold twoN
        rw [HSV.out,if_neg (show ¬ 0 < sv by have:=HZ.out;omega),if_neg hno,if_neg (by intro z;exact absurd z.2 (of_decide_eq_false hl))]
       clear HT HZ hno
       go_wp2_with fail
       refine (EN.out a b ha hb).mono ?_
       rintro e w1 ⟨rfl,S1,h1,p1⟩
       go_wp2_with fail
       go_ret
       rw [HR.out]
       exact ⟨rfl,S1,h1.mono (Nat.le_succ _),p1⟩
      ·have HR:Hid (twoD d fn a b=namedD d (kyB fn b a)):=by
        show _=_
        rw [HT.out];unfold twoN
        rw [HSV.out,if_neg (show ¬ 0<sv by have:=HZ.out;omega),if_neg hno,if_pos ⟨hs,of_decide_eq_true hl⟩]
       clear HT HZ hno
       go_wp2_with fail
       refine (EN.out b a hb ha).mono ?_
       rintro e w1 ⟨rfl,S1,h1,p1⟩
       go_wp2_with fail
       go_ret
       rw [HR.out]
       exact ⟨rfl,S1,h1.mono (Nat.le_succ _),p1⟩
    ·rcases boolTF (fn ==2) with e2|e2
     ·rcases boolTF (fn ==8) with e3|e3
      ·have hno:¬ (a=b∧(fn=2∨fn=8)):=fun z=>by
        rw [beq_eq_false_iff_ne] at e2 e3
        exact z.2.elim e2 e3
       go_wp2_with fail
       refine (swaps_c fn _).mono ?_
       rintro e w' ⟨rfl,rfl⟩
       cases hs:swapsF fn
       ·have HR:Hid (twoD d fn a b=namedD d (kyB fn a b)):=by
         show _=_
         rw [HT.out];unfold twoN
         rw [HSV.out,if_neg (show ¬ 0<sv by have:=HZ.out;omega),if_neg hno,hs,if_neg (by simp)]
        clear HT HZ hno
        go_wp2_with fail
        refine (EN.out a b ha hb).mono ?_
        rintro e w1 ⟨rfl,S1,h1,p1⟩
        go_wp2_with fail
        go_ret
        rw [HR.out]
        exact ⟨rfl,S1,h1.mono (Nat.le_succ _),p1⟩
       ·rcases boolTF (decide (b<a)) with hl|hl
        ·have HR:Hid (twoD d fn a b=namedD d (kyB fn a b)):=by
          show _=_
          rw [HT.out];unfold twoN
          rw [HSV.out,if_neg (show ¬ 0 < sv by have:=HZ.out;omega),if_neg hno,if_neg (by intro z;exact absurd z.2 (of_decide_eq_false hl))]
         clear HT HZ hno
         go_wp2_with fail
         refine (EN.out a b ha hb).mono ?_
         rintro e w1 ⟨rfl,S1,h1,p1⟩
         go_wp2_with fail
         go_ret
         rw [HR.out]
         exact ⟨rfl,S1,h1.mono (Nat.le_succ _),p1⟩
        ·have HR:Hid (twoD d fn a b=namedD d (kyB fn b a)):=by
          show _=_
          rw [HT.out];unfold twoN
          rw [HSV.out,if_neg (show ¬ 0<sv by have:=HZ.out;omega),if_neg hno,if_pos ⟨hs,of_decide_eq_true hl⟩]
         clear HT HZ hno
         go_wp2_with fail
         refine (EN.out b a hb ha).mono ?_
         rintro e w1 ⟨rfl,S1,h1,p1⟩
         go_wp2_with fail
         go_ret
         rw [HR.out]
         exact ⟨rfl,S1,h1.mono (Nat.le_succ _),p1⟩
      ·have hyes:a=b∧(fn=2∨fn=8):=⟨beq_iff_eq.1 e1,.inr (beq_iff_eq.1 e3)⟩
       have HR:Hid (twoD d fn a b=constD d 0):=by
        show _=_
        rw [HT.out];unfold twoN
        rw [HSV.out,if_neg (show ¬ 0<sv by have:=HZ.out;omega),if_pos hyes]
       clear HT HZ hyes
       go_wp2_with fail
       refine EZ.out.mono ?_
       rintro e w1 ⟨rfl,S1,h1,p1⟩
       go_wp2_with fail
       go_ret
       rw [HR.out]
       exact ⟨rfl,S1,h1,p1⟩
     ·have hyes:a=b∧(fn=2∨fn=8):=⟨beq_iff_eq.1 e1,.inl (beq_iff_eq.1 e2)⟩
      have HR:Hid (twoD d fn a b=constD d 0):=by
       show _=_
       rw [HT.out];unfold twoN
       rw [HSV.out,if_neg (show ¬ 0<sv by have:=HZ.out;omega),if_pos hyes]
      clear HT HZ hyes
      go_wp2_with fail
      refine EZ.out.mono ?_
      rintro e w1 ⟨rfl,S1,h1,p1⟩
      go_wp2_with fail
      go_ret
      rw [HR.out]
      exact ⟨rfl,S1,h1,p1⟩
   ·have HR:Hid (twoD d fn a b=(sameD d fn a b,d)):=by
     show _=_
     rw [HT.out];unfold twoN
     rw [if_pos (of_decide_eq_true hz)]
    clear HT
    generalize sameD d fn a b=sv at *
    go_wp2_with fail
    go_ret
    rw [HR.out]
    exact ⟨rfl,S,H.out.mono (by omega),Stp.refl _ _⟩
  | some n=>
   have hm:=(HB.out.num a m en).2
   have hn:=(HB.out.num b n em).2
   have HT:Hid (twoD d fn a b=constD d (fnF fn m n)):=by show _=_;unfold twoD;rw [en,em]
   rw [en] at hla
   rw [em] at hlb
   simp only [Option.isSome_some,Option.getD_some] at hla hlb
   rw [HT.out]
   clear en em HT
   go_enter Tryz.func134,Tryz.ntmps134
   go_wp2_with fail
   refine (fn_c fn m n _ hm.1 hm.2 hn.1 hn.2).mono ?_
   rintro e w' ⟨rfl,rfl⟩
   go_wp2_with fail
   refine (EC.out _ (fnF_bd _ _ _ hm.1 hm.2 hn.1 hn.2)).mono ?_
   rintro e w1 ⟨rfl,S1,h1,p1⟩
   go_wp2_with fail
   go_ret
   exact ⟨rfl,S1,h1,p1⟩
end
end Go.Proofs.YtkhfddodmjnecaaGreatDoor
