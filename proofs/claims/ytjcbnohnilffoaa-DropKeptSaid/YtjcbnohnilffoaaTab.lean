/- MADE BY tab.py (a program of this session's): the closed facts on the program's types and functions, as instances. -/
import Derived.Test.YtjcbnohnilffoaaOps
import Derived.Test.YtjcbnohnilffoaaProg
set_option linter.unusedVariables false
namespace Go.Proofs.Ytjcbnohnilffoaa
namespace Tab
variable {P : Program}
theorem inf_mk {t : TypeId} {i : TypeInfo} {sz by_ : Nat} {z : Value} (hi : P.info? t = some i) (hs : i.size = sz) (hb : i.bytes = by_) (hz : i.zero = some z) (hzs : z.cells.size = sz) : Inf P t sz by_ z := ⟨⟨i, hi, hs, hb, hz⟩, hzs⟩
abbrev u1 := U.mk (P := Try.prog) (t := 1) Try.underlying1
abbrev na1 := Na.mk (P := Try.prog) (t := 1) Try.isAgg1
abbrev inf1 := inf_mk (P := Try.prog) (t := 1) (sz := 1) (by_ := 8) (by kernel_rfl : Try.prog.info? 1 = some Try.t1) rfl rfl rfl (by kernel_rfl)
abbrev u2 := U.mk (P := Try.prog) (t := 2) Try.underlying2
abbrev na2 := Na.mk (P := Try.prog) (t := 2) Try.isAgg2
abbrev inf2 := inf_mk (P := Try.prog) (t := 2) (sz := 1) (by_ := 8) (by kernel_rfl : Try.prog.info? 2 = some Try.t2) rfl rfl rfl (by kernel_rfl)
abbrev u3 := U.mk (P := Try.prog) (t := 3) Try.underlying3
abbrev na3 := Na.mk (P := Try.prog) (t := 3) Try.isAgg3
abbrev inf3 := inf_mk (P := Try.prog) (t := 3) (sz := 1) (by_ := 8) (by kernel_rfl : Try.prog.info? 3 = some Try.t3) rfl rfl rfl (by kernel_rfl)
abbrev u4 := U.mk (P := Try.prog) (t := 4) Try.underlying4
abbrev na4 := Na.mk (P := Try.prog) (t := 4) Try.isAgg4
abbrev inf4 := inf_mk (P := Try.prog) (t := 4) (sz := 1) (by_ := 1) (by kernel_rfl : Try.prog.info? 4 = some Try.t4) rfl rfl rfl (by kernel_rfl)
abbrev u5 := U.mk (P := Try.prog) (t := 5) Try.underlying5
abbrev na5 := Na.mk (P := Try.prog) (t := 5) Try.isAgg5
abbrev inf5 := inf_mk (P := Try.prog) (t := 5) (sz := 1) (by_ := 1) (by kernel_rfl : Try.prog.info? 5 = some Try.t5) rfl rfl rfl (by kernel_rfl)
abbrev u6 := U.mk (P := Try.prog) (t := 6) Try.underlying6
abbrev na6 := Na.mk (P := Try.prog) (t := 6) Try.isAgg6
abbrev inf6 := inf_mk (P := Try.prog) (t := 6) (sz := 1) (by_ := 1) (by kernel_rfl : Try.prog.info? 6 = some Try.t6) rfl rfl rfl (by kernel_rfl)
abbrev u7 := U.mk (P := Try.prog) (t := 7) Try.underlying7
abbrev ag7 := Ag.mk (P := Try.prog) (t := 7) (sz := 4) Try.isAgg7 Try.sizeOf7
abbrev inf7 := inf_mk (P := Try.prog) (t := 7) (sz := 4) (by_ := 24) (by kernel_rfl : Try.prog.info? 7 = some Try.t7) rfl rfl rfl (by kernel_rfl)
abbrev u8 := U.mk (P := Try.prog) (t := 8) Try.underlying8
abbrev ag8 := Ag.mk (P := Try.prog) (t := 8) (sz := 4) Try.isAgg8 Try.sizeOf8
abbrev inf8 := inf_mk (P := Try.prog) (t := 8) (sz := 4) (by_ := 24) (by kernel_rfl : Try.prog.info? 8 = some Try.t8) rfl rfl rfl (by kernel_rfl)
abbrev u9 := U.mk (P := Try.prog) (t := 9) Try.underlying9
abbrev na9 := Na.mk (P := Try.prog) (t := 9) Try.isAgg9
abbrev inf9 := inf_mk (P := Try.prog) (t := 9) (sz := 1) (by_ := 16) (by kernel_rfl : Try.prog.info? 9 = some Try.t9) rfl rfl rfl (by kernel_rfl)
abbrev u10 := U.mk (P := Try.prog) (t := 10) Try.underlying10
abbrev na10 := Na.mk (P := Try.prog) (t := 10) Try.isAgg10
abbrev inf10 := inf_mk (P := Try.prog) (t := 10) (sz := 1) (by_ := 16) (by kernel_rfl : Try.prog.info? 10 = some Try.t10) rfl rfl rfl (by kernel_rfl)
abbrev u11 := U.mk (P := Try.prog) (t := 11) Try.underlying11
abbrev na11 := Na.mk (P := Try.prog) (t := 11) Try.isAgg11
abbrev inf11 := inf_mk (P := Try.prog) (t := 11) (sz := 1) (by_ := 16) (by kernel_rfl : Try.prog.info? 11 = some Try.t11) rfl rfl rfl (by kernel_rfl)
abbrev u12 := U.mk (P := Try.prog) (t := 12) Try.underlying12
abbrev na12 := Na.mk (P := Try.prog) (t := 12) Try.isAgg12
abbrev inf12 := inf_mk (P := Try.prog) (t := 12) (sz := 1) (by_ := 8) (by kernel_rfl : Try.prog.info? 12 = some Try.t12) rfl rfl rfl (by kernel_rfl)
abbrev u13 := U.mk (P := Try.prog) (t := 13) Try.underlying13
abbrev ag13 := Ag.mk (P := Try.prog) (t := 13) (sz := 2) Try.isAgg13 Try.sizeOf13
abbrev inf13 := inf_mk (P := Try.prog) (t := 13) (sz := 2) (by_ := 24) (by kernel_rfl : Try.prog.info? 13 = some Try.t13) rfl rfl rfl (by kernel_rfl)
abbrev u14 := U.mk (P := Try.prog) (t := 14) Try.underlying14
abbrev ag14 := Ag.mk (P := Try.prog) (t := 14) (sz := 2) Try.isAgg14 Try.sizeOf14
abbrev inf14 := inf_mk (P := Try.prog) (t := 14) (sz := 2) (by_ := 24) (by kernel_rfl : Try.prog.info? 14 = some Try.t14) rfl rfl rfl (by kernel_rfl)
abbrev u15 := U.mk (P := Try.prog) (t := 15) Try.underlying15
abbrev na15 := Na.mk (P := Try.prog) (t := 15) Try.isAgg15
abbrev inf15 := inf_mk (P := Try.prog) (t := 15) (sz := 1) (by_ := 8) (by kernel_rfl : Try.prog.info? 15 = some Try.t15) rfl rfl rfl (by kernel_rfl)
abbrev u16 := U.mk (P := Try.prog) (t := 16) Try.underlying16
abbrev na16 := Na.mk (P := Try.prog) (t := 16) Try.isAgg16
abbrev inf16 := inf_mk (P := Try.prog) (t := 16) (sz := 1) (by_ := 8) (by kernel_rfl : Try.prog.info? 16 = some Try.t16) rfl rfl rfl (by kernel_rfl)
abbrev u17 := U.mk (P := Try.prog) (t := 17) Try.underlying17
abbrev na17 := Na.mk (P := Try.prog) (t := 17) Try.isAgg17
abbrev inf17 := inf_mk (P := Try.prog) (t := 17) (sz := 1) (by_ := 8) (by kernel_rfl : Try.prog.info? 17 = some Try.t17) rfl rfl rfl (by kernel_rfl)
abbrev u18 := U.mk (P := Try.prog) (t := 18) Try.underlying18
abbrev ag18 := Ag.mk (P := Try.prog) (t := 18) (sz := 1) Try.isAgg18 Try.sizeOf18
abbrev inf18 := inf_mk (P := Try.prog) (t := 18) (sz := 1) (by_ := 8) (by kernel_rfl : Try.prog.info? 18 = some Try.t18) rfl rfl rfl (by kernel_rfl)
abbrev u19 := U.mk (P := Try.prog) (t := 19) Try.underlying19
abbrev ag19 := Ag.mk (P := Try.prog) (t := 19) (sz := 1) Try.isAgg19 Try.sizeOf19
abbrev inf19 := inf_mk (P := Try.prog) (t := 19) (sz := 1) (by_ := 8) (by kernel_rfl : Try.prog.info? 19 = some Try.t19) rfl rfl rfl (by kernel_rfl)
abbrev u20 := U.mk (P := Try.prog) (t := 20) Try.underlying20
abbrev na20 := Na.mk (P := Try.prog) (t := 20) Try.isAgg20
abbrev inf20 := inf_mk (P := Try.prog) (t := 20) (sz := 1) (by_ := 16) (by kernel_rfl : Try.prog.info? 20 = some Try.t20) rfl rfl rfl (by kernel_rfl)
abbrev u21 := U.mk (P := Try.prog) (t := 21) Try.underlying21
abbrev na21 := Na.mk (P := Try.prog) (t := 21) Try.isAgg21
abbrev inf21 := inf_mk (P := Try.prog) (t := 21) (sz := 1) (by_ := 4) (by kernel_rfl : Try.prog.info? 21 = some Try.t21) rfl rfl rfl (by kernel_rfl)
abbrev u22 := U.mk (P := Try.prog) (t := 22) Try.underlying22
abbrev na22 := Na.mk (P := Try.prog) (t := 22) Try.isAgg22
abbrev inf22 := inf_mk (P := Try.prog) (t := 22) (sz := 1) (by_ := 24) (by kernel_rfl : Try.prog.info? 22 = some Try.t22) rfl rfl rfl (by kernel_rfl)
abbrev u23 := U.mk (P := Try.prog) (t := 23) Try.underlying23
abbrev na23 := Na.mk (P := Try.prog) (t := 23) Try.isAgg23
abbrev inf23 := inf_mk (P := Try.prog) (t := 23) (sz := 1) (by_ := 24) (by kernel_rfl : Try.prog.info? 23 = some Try.t23) rfl rfl rfl (by kernel_rfl)
abbrev u24 := U.mk (P := Try.prog) (t := 24) Try.underlying24
abbrev ag24 := Ag.mk (P := Try.prog) (t := 24) (sz := 21) Try.isAgg24 Try.sizeOf24
abbrev inf24 := inf_mk (P := Try.prog) (t := 24) (sz := 21) (by_ := 56) (by kernel_rfl : Try.prog.info? 24 = some Try.t24) rfl rfl rfl (by kernel_rfl)
abbrev u25 := U.mk (P := Try.prog) (t := 25) Try.underlying25
abbrev ag25 := Ag.mk (P := Try.prog) (t := 25) (sz := 21) Try.isAgg25 Try.sizeOf25
abbrev inf25 := inf_mk (P := Try.prog) (t := 25) (sz := 21) (by_ := 56) (by kernel_rfl : Try.prog.info? 25 = some Try.t25) rfl rfl rfl (by kernel_rfl)
abbrev u26 := U.mk (P := Try.prog) (t := 26) Try.underlying26
abbrev na26 := Na.mk (P := Try.prog) (t := 26) Try.isAgg26
abbrev inf26 := inf_mk (P := Try.prog) (t := 26) (sz := 1) (by_ := 8) (by kernel_rfl : Try.prog.info? 26 = some Try.t26) rfl rfl rfl (by kernel_rfl)
abbrev u27 := U.mk (P := Try.prog) (t := 27) Try.underlying27
abbrev na27 := Na.mk (P := Try.prog) (t := 27) Try.isAgg27
abbrev inf27 := inf_mk (P := Try.prog) (t := 27) (sz := 1) (by_ := 8) (by kernel_rfl : Try.prog.info? 27 = some Try.t27) rfl rfl rfl (by kernel_rfl)
abbrev u28 := U.mk (P := Try.prog) (t := 28) Try.underlying28
abbrev na28 := Na.mk (P := Try.prog) (t := 28) Try.isAgg28
abbrev inf28 := inf_mk (P := Try.prog) (t := 28) (sz := 1) (by_ := 24) (by kernel_rfl : Try.prog.info? 28 = some Try.t28) rfl rfl rfl (by kernel_rfl)
abbrev u30 := U.mk (P := Try.prog) (t := 30) Try.underlying30
abbrev na30 := Na.mk (P := Try.prog) (t := 30) Try.isAgg30
abbrev inf30 := inf_mk (P := Try.prog) (t := 30) (sz := 1) (by_ := 8) (by kernel_rfl : Try.prog.info? 30 = some Try.t30) rfl rfl rfl (by kernel_rfl)
abbrev u31 := U.mk (P := Try.prog) (t := 31) Try.underlying31
abbrev na31 := Na.mk (P := Try.prog) (t := 31) Try.isAgg31
abbrev inf31 := inf_mk (P := Try.prog) (t := 31) (sz := 1) (by_ := 8) (by kernel_rfl : Try.prog.info? 31 = some Try.t31) rfl rfl rfl (by kernel_rfl)
abbrev u32 := U.mk (P := Try.prog) (t := 32) Try.underlying32
abbrev na32 := Na.mk (P := Try.prog) (t := 32) Try.isAgg32
abbrev inf32 := inf_mk (P := Try.prog) (t := 32) (sz := 1) (by_ := 8) (by kernel_rfl : Try.prog.info? 32 = some Try.t32) rfl rfl rfl (by kernel_rfl)
abbrev u33 := U.mk (P := Try.prog) (t := 33) Try.underlying33
abbrev na33 := Na.mk (P := Try.prog) (t := 33) Try.isAgg33
abbrev inf33 := inf_mk (P := Try.prog) (t := 33) (sz := 1) (by_ := 8) (by kernel_rfl : Try.prog.info? 33 = some Try.t33) rfl rfl rfl (by kernel_rfl)
abbrev u34 := U.mk (P := Try.prog) (t := 34) Try.underlying34
abbrev ag34 := Ag.mk (P := Try.prog) (t := 34) (sz := 5) Try.isAgg34 Try.sizeOf34
abbrev inf34 := inf_mk (P := Try.prog) (t := 34) (sz := 5) (by_ := 40) (by kernel_rfl : Try.prog.info? 34 = some Try.t34) rfl rfl rfl (by kernel_rfl)
abbrev u35 := U.mk (P := Try.prog) (t := 35) Try.underlying35
abbrev ag35 := Ag.mk (P := Try.prog) (t := 35) (sz := 5) Try.isAgg35 Try.sizeOf35
abbrev inf35 := inf_mk (P := Try.prog) (t := 35) (sz := 5) (by_ := 40) (by kernel_rfl : Try.prog.info? 35 = some Try.t35) rfl rfl rfl (by kernel_rfl)
abbrev u36 := U.mk (P := Try.prog) (t := 36) Try.underlying36
abbrev ag36 := Ag.mk (P := Try.prog) (t := 36) (sz := 11) Try.isAgg36 Try.sizeOf36
abbrev inf36 := inf_mk (P := Try.prog) (t := 36) (sz := 11) (by_ := 112) (by kernel_rfl : Try.prog.info? 36 = some Try.t36) rfl rfl rfl (by kernel_rfl)
abbrev u37 := U.mk (P := Try.prog) (t := 37) Try.underlying37
abbrev ag37 := Ag.mk (P := Try.prog) (t := 37) (sz := 11) Try.isAgg37 Try.sizeOf37
abbrev inf37 := inf_mk (P := Try.prog) (t := 37) (sz := 11) (by_ := 112) (by kernel_rfl : Try.prog.info? 37 = some Try.t37) rfl rfl rfl (by kernel_rfl)
abbrev u39 := U.mk (P := Try.prog) (t := 39) Try.underlying39
abbrev na39 := Na.mk (P := Try.prog) (t := 39) Try.isAgg39
abbrev inf39 := inf_mk (P := Try.prog) (t := 39) (sz := 1) (by_ := 8) (by kernel_rfl : Try.prog.info? 39 = some Try.t39) rfl rfl rfl (by kernel_rfl)
abbrev u40 := U.mk (P := Try.prog) (t := 40) Try.underlying40
abbrev na40 := Na.mk (P := Try.prog) (t := 40) Try.isAgg40
abbrev inf40 := inf_mk (P := Try.prog) (t := 40) (sz := 1) (by_ := 8) (by kernel_rfl : Try.prog.info? 40 = some Try.t40) rfl rfl rfl (by kernel_rfl)
abbrev u41 := U.mk (P := Try.prog) (t := 41) Try.underlying41
abbrev na41 := Na.mk (P := Try.prog) (t := 41) Try.isAgg41
abbrev inf41 := inf_mk (P := Try.prog) (t := 41) (sz := 1) (by_ := 8) (by kernel_rfl : Try.prog.info? 41 = some Try.t41) rfl rfl rfl (by kernel_rfl)
abbrev u42 := U.mk (P := Try.prog) (t := 42) Try.underlying42
abbrev na42 := Na.mk (P := Try.prog) (t := 42) Try.isAgg42
abbrev inf42 := inf_mk (P := Try.prog) (t := 42) (sz := 1) (by_ := 8) (by kernel_rfl : Try.prog.info? 42 = some Try.t42) rfl rfl rfl (by kernel_rfl)
abbrev u43 := U.mk (P := Try.prog) (t := 43) Try.underlying43
abbrev na43 := Na.mk (P := Try.prog) (t := 43) Try.isAgg43
abbrev inf43 := inf_mk (P := Try.prog) (t := 43) (sz := 1) (by_ := 8) (by kernel_rfl : Try.prog.info? 43 = some Try.t43) rfl rfl rfl (by kernel_rfl)
abbrev u44 := U.mk (P := Try.prog) (t := 44) Try.underlying44
abbrev na44 := Na.mk (P := Try.prog) (t := 44) Try.isAgg44
abbrev inf44 := inf_mk (P := Try.prog) (t := 44) (sz := 1) (by_ := 8) (by kernel_rfl : Try.prog.info? 44 = some Try.t44) rfl rfl rfl (by kernel_rfl)
abbrev u45 := U.mk (P := Try.prog) (t := 45) Try.underlying45
abbrev na45 := Na.mk (P := Try.prog) (t := 45) Try.isAgg45
abbrev inf45 := inf_mk (P := Try.prog) (t := 45) (sz := 1) (by_ := 8) (by kernel_rfl : Try.prog.info? 45 = some Try.t45) rfl rfl rfl (by kernel_rfl)
abbrev u46 := U.mk (P := Try.prog) (t := 46) Try.underlying46
abbrev na46 := Na.mk (P := Try.prog) (t := 46) Try.isAgg46
abbrev inf46 := inf_mk (P := Try.prog) (t := 46) (sz := 1) (by_ := 8) (by kernel_rfl : Try.prog.info? 46 = some Try.t46) rfl rfl rfl (by kernel_rfl)
abbrev u47 := U.mk (P := Try.prog) (t := 47) Try.underlying47
abbrev ag47 := Ag.mk (P := Try.prog) (t := 47) (sz := 4) Try.isAgg47 Try.sizeOf47
abbrev inf47 := inf_mk (P := Try.prog) (t := 47) (sz := 4) (by_ := 32) (by kernel_rfl : Try.prog.info? 47 = some Try.t47) rfl rfl rfl (by kernel_rfl)
abbrev u48 := U.mk (P := Try.prog) (t := 48) Try.underlying48
abbrev ag48 := Ag.mk (P := Try.prog) (t := 48) (sz := 4) Try.isAgg48 Try.sizeOf48
abbrev inf48 := inf_mk (P := Try.prog) (t := 48) (sz := 4) (by_ := 32) (by kernel_rfl : Try.prog.info? 48 = some Try.t48) rfl rfl rfl (by kernel_rfl)
abbrev u49 := U.mk (P := Try.prog) (t := 49) Try.underlying49
abbrev na49 := Na.mk (P := Try.prog) (t := 49) Try.isAgg49
abbrev inf49 := inf_mk (P := Try.prog) (t := 49) (sz := 1) (by_ := 8) (by kernel_rfl : Try.prog.info? 49 = some Try.t49) rfl rfl rfl (by kernel_rfl)
abbrev u50 := U.mk (P := Try.prog) (t := 50) Try.underlying50
abbrev na50 := Na.mk (P := Try.prog) (t := 50) Try.isAgg50
abbrev inf50 := inf_mk (P := Try.prog) (t := 50) (sz := 1) (by_ := 8) (by kernel_rfl : Try.prog.info? 50 = some Try.t50) rfl rfl rfl (by kernel_rfl)
abbrev u51 := U.mk (P := Try.prog) (t := 51) Try.underlying51
abbrev na51 := Na.mk (P := Try.prog) (t := 51) Try.isAgg51
abbrev inf51 := inf_mk (P := Try.prog) (t := 51) (sz := 1) (by_ := 24) (by kernel_rfl : Try.prog.info? 51 = some Try.t51) rfl rfl rfl (by kernel_rfl)
abbrev u52 := U.mk (P := Try.prog) (t := 52) Try.underlying52
abbrev na52 := Na.mk (P := Try.prog) (t := 52) Try.isAgg52
abbrev inf52 := inf_mk (P := Try.prog) (t := 52) (sz := 1) (by_ := 8) (by kernel_rfl : Try.prog.info? 52 = some Try.t52) rfl rfl rfl (by kernel_rfl)
abbrev u53 := U.mk (P := Try.prog) (t := 53) Try.underlying53
abbrev na53 := Na.mk (P := Try.prog) (t := 53) Try.isAgg53
abbrev inf53 := inf_mk (P := Try.prog) (t := 53) (sz := 1) (by_ := 8) (by kernel_rfl : Try.prog.info? 53 = some Try.t53) rfl rfl rfl (by kernel_rfl)
abbrev u54 := U.mk (P := Try.prog) (t := 54) Try.underlying54
abbrev ag54 := Ag.mk (P := Try.prog) (t := 54) (sz := 5) Try.isAgg54 Try.sizeOf54
abbrev inf54 := inf_mk (P := Try.prog) (t := 54) (sz := 5) (by_ := 88) (by kernel_rfl : Try.prog.info? 54 = some Try.t54) rfl rfl rfl (by kernel_rfl)
abbrev u55 := U.mk (P := Try.prog) (t := 55) Try.underlying55
abbrev ag55 := Ag.mk (P := Try.prog) (t := 55) (sz := 5) Try.isAgg55 Try.sizeOf55
abbrev inf55 := inf_mk (P := Try.prog) (t := 55) (sz := 5) (by_ := 88) (by kernel_rfl : Try.prog.info? 55 = some Try.t55) rfl rfl rfl (by kernel_rfl)
abbrev u56 := U.mk (P := Try.prog) (t := 56) Try.underlying56
abbrev na56 := Na.mk (P := Try.prog) (t := 56) Try.isAgg56
abbrev inf56 := inf_mk (P := Try.prog) (t := 56) (sz := 1) (by_ := 8) (by kernel_rfl : Try.prog.info? 56 = some Try.t56) rfl rfl rfl (by kernel_rfl)
abbrev u57 := U.mk (P := Try.prog) (t := 57) Try.underlying57
abbrev na57 := Na.mk (P := Try.prog) (t := 57) Try.isAgg57
abbrev inf57 := inf_mk (P := Try.prog) (t := 57) (sz := 1) (by_ := 8) (by kernel_rfl : Try.prog.info? 57 = some Try.t57) rfl rfl rfl (by kernel_rfl)
abbrev u58 := U.mk (P := Try.prog) (t := 58) Try.underlying58
abbrev na58 := Na.mk (P := Try.prog) (t := 58) Try.isAgg58
abbrev inf58 := inf_mk (P := Try.prog) (t := 58) (sz := 1) (by_ := 8) (by kernel_rfl : Try.prog.info? 58 = some Try.t58) rfl rfl rfl (by kernel_rfl)
abbrev u59 := U.mk (P := Try.prog) (t := 59) Try.underlying59
abbrev na59 := Na.mk (P := Try.prog) (t := 59) Try.isAgg59
abbrev inf59 := inf_mk (P := Try.prog) (t := 59) (sz := 1) (by_ := 8) (by kernel_rfl : Try.prog.info? 59 = some Try.t59) rfl rfl rfl (by kernel_rfl)
abbrev u60 := U.mk (P := Try.prog) (t := 60) Try.underlying60
abbrev na60 := Na.mk (P := Try.prog) (t := 60) Try.isAgg60
abbrev inf60 := inf_mk (P := Try.prog) (t := 60) (sz := 1) (by_ := 8) (by kernel_rfl : Try.prog.info? 60 = some Try.t60) rfl rfl rfl (by kernel_rfl)
abbrev u61 := U.mk (P := Try.prog) (t := 61) Try.underlying61
abbrev na61 := Na.mk (P := Try.prog) (t := 61) Try.isAgg61
abbrev inf61 := inf_mk (P := Try.prog) (t := 61) (sz := 1) (by_ := 8) (by kernel_rfl : Try.prog.info? 61 = some Try.t61) rfl rfl rfl (by kernel_rfl)
abbrev u62 := U.mk (P := Try.prog) (t := 62) Try.underlying62
abbrev na62 := Na.mk (P := Try.prog) (t := 62) Try.isAgg62
abbrev inf62 := inf_mk (P := Try.prog) (t := 62) (sz := 1) (by_ := 8) (by kernel_rfl : Try.prog.info? 62 = some Try.t62) rfl rfl rfl (by kernel_rfl)
abbrev u63 := U.mk (P := Try.prog) (t := 63) Try.underlying63
abbrev na63 := Na.mk (P := Try.prog) (t := 63) Try.isAgg63
abbrev inf63 := inf_mk (P := Try.prog) (t := 63) (sz := 1) (by_ := 8) (by kernel_rfl : Try.prog.info? 63 = some Try.t63) rfl rfl rfl (by kernel_rfl)
abbrev u64 := U.mk (P := Try.prog) (t := 64) Try.underlying64
abbrev na64 := Na.mk (P := Try.prog) (t := 64) Try.isAgg64
abbrev inf64 := inf_mk (P := Try.prog) (t := 64) (sz := 1) (by_ := 8) (by kernel_rfl : Try.prog.info? 64 = some Try.t64) rfl rfl rfl (by kernel_rfl)
abbrev u65 := U.mk (P := Try.prog) (t := 65) Try.underlying65
abbrev na65 := Na.mk (P := Try.prog) (t := 65) Try.isAgg65
abbrev inf65 := inf_mk (P := Try.prog) (t := 65) (sz := 1) (by_ := 8) (by kernel_rfl : Try.prog.info? 65 = some Try.t65) rfl rfl rfl (by kernel_rfl)
abbrev u66 := U.mk (P := Try.prog) (t := 66) Try.underlying66
abbrev na66 := Na.mk (P := Try.prog) (t := 66) Try.isAgg66
abbrev inf66 := inf_mk (P := Try.prog) (t := 66) (sz := 1) (by_ := 8) (by kernel_rfl : Try.prog.info? 66 = some Try.t66) rfl rfl rfl (by kernel_rfl)
abbrev u67 := U.mk (P := Try.prog) (t := 67) Try.underlying67
abbrev na67 := Na.mk (P := Try.prog) (t := 67) Try.isAgg67
abbrev inf67 := inf_mk (P := Try.prog) (t := 67) (sz := 1) (by_ := 8) (by kernel_rfl : Try.prog.info? 67 = some Try.t67) rfl rfl rfl (by kernel_rfl)
abbrev u68 := U.mk (P := Try.prog) (t := 68) Try.underlying68
abbrev na68 := Na.mk (P := Try.prog) (t := 68) Try.isAgg68
abbrev inf68 := inf_mk (P := Try.prog) (t := 68) (sz := 1) (by_ := 8) (by kernel_rfl : Try.prog.info? 68 = some Try.t68) rfl rfl rfl (by kernel_rfl)
abbrev u69 := U.mk (P := Try.prog) (t := 69) Try.underlying69
abbrev na69 := Na.mk (P := Try.prog) (t := 69) Try.isAgg69
abbrev inf69 := inf_mk (P := Try.prog) (t := 69) (sz := 1) (by_ := 8) (by kernel_rfl : Try.prog.info? 69 = some Try.t69) rfl rfl rfl (by kernel_rfl)
abbrev u70 := U.mk (P := Try.prog) (t := 70) Try.underlying70
abbrev na70 := Na.mk (P := Try.prog) (t := 70) Try.isAgg70
abbrev inf70 := inf_mk (P := Try.prog) (t := 70) (sz := 1) (by_ := 8) (by kernel_rfl : Try.prog.info? 70 = some Try.t70) rfl rfl rfl (by kernel_rfl)
abbrev u71 := U.mk (P := Try.prog) (t := 71) Try.underlying71
abbrev na71 := Na.mk (P := Try.prog) (t := 71) Try.isAgg71
abbrev inf71 := inf_mk (P := Try.prog) (t := 71) (sz := 1) (by_ := 8) (by kernel_rfl : Try.prog.info? 71 = some Try.t71) rfl rfl rfl (by kernel_rfl)
abbrev u72 := U.mk (P := Try.prog) (t := 72) Try.underlying72
abbrev na72 := Na.mk (P := Try.prog) (t := 72) Try.isAgg72
abbrev inf72 := inf_mk (P := Try.prog) (t := 72) (sz := 1) (by_ := 8) (by kernel_rfl : Try.prog.info? 72 = some Try.t72) rfl rfl rfl (by kernel_rfl)
abbrev u73 := U.mk (P := Try.prog) (t := 73) Try.underlying73
abbrev na73 := Na.mk (P := Try.prog) (t := 73) Try.isAgg73
abbrev inf73 := inf_mk (P := Try.prog) (t := 73) (sz := 1) (by_ := 8) (by kernel_rfl : Try.prog.info? 73 = some Try.t73) rfl rfl rfl (by kernel_rfl)
abbrev u75 := U.mk (P := Try.prog) (t := 75) Try.underlying75
abbrev na75 := Na.mk (P := Try.prog) (t := 75) Try.isAgg75
abbrev inf75 := inf_mk (P := Try.prog) (t := 75) (sz := 1) (by_ := 8) (by kernel_rfl : Try.prog.info? 75 = some Try.t75) rfl rfl rfl (by kernel_rfl)
abbrev u76 := U.mk (P := Try.prog) (t := 76) Try.underlying76
abbrev na76 := Na.mk (P := Try.prog) (t := 76) Try.isAgg76
abbrev inf76 := inf_mk (P := Try.prog) (t := 76) (sz := 1) (by_ := 8) (by kernel_rfl : Try.prog.info? 76 = some Try.t76) rfl rfl rfl (by kernel_rfl)
abbrev u77 := U.mk (P := Try.prog) (t := 77) Try.underlying77
abbrev na77 := Na.mk (P := Try.prog) (t := 77) Try.isAgg77
abbrev inf77 := inf_mk (P := Try.prog) (t := 77) (sz := 1) (by_ := 8) (by kernel_rfl : Try.prog.info? 77 = some Try.t77) rfl rfl rfl (by kernel_rfl)
abbrev u78 := U.mk (P := Try.prog) (t := 78) Try.underlying78
abbrev na78 := Na.mk (P := Try.prog) (t := 78) Try.isAgg78
abbrev inf78 := inf_mk (P := Try.prog) (t := 78) (sz := 1) (by_ := 8) (by kernel_rfl : Try.prog.info? 78 = some Try.t78) rfl rfl rfl (by kernel_rfl)
abbrev u79 := U.mk (P := Try.prog) (t := 79) Try.underlying79
abbrev na79 := Na.mk (P := Try.prog) (t := 79) Try.isAgg79
abbrev inf79 := inf_mk (P := Try.prog) (t := 79) (sz := 1) (by_ := 8) (by kernel_rfl : Try.prog.info? 79 = some Try.t79) rfl rfl rfl (by kernel_rfl)
abbrev u80 := U.mk (P := Try.prog) (t := 80) Try.underlying80
abbrev na80 := Na.mk (P := Try.prog) (t := 80) Try.isAgg80
abbrev inf80 := inf_mk (P := Try.prog) (t := 80) (sz := 1) (by_ := 24) (by kernel_rfl : Try.prog.info? 80 = some Try.t80) rfl rfl rfl (by kernel_rfl)
abbrev u81 := U.mk (P := Try.prog) (t := 81) Try.underlying81
abbrev na81 := Na.mk (P := Try.prog) (t := 81) Try.isAgg81
abbrev inf81 := inf_mk (P := Try.prog) (t := 81) (sz := 1) (by_ := 8) (by kernel_rfl : Try.prog.info? 81 = some Try.t81) rfl rfl rfl (by kernel_rfl)
abbrev u82 := U.mk (P := Try.prog) (t := 82) Try.underlying82
abbrev na82 := Na.mk (P := Try.prog) (t := 82) Try.isAgg82
abbrev inf82 := inf_mk (P := Try.prog) (t := 82) (sz := 1) (by_ := 8) (by kernel_rfl : Try.prog.info? 82 = some Try.t82) rfl rfl rfl (by kernel_rfl)
abbrev u83 := U.mk (P := Try.prog) (t := 83) Try.underlying83
abbrev na83 := Na.mk (P := Try.prog) (t := 83) Try.isAgg83
abbrev inf83 := inf_mk (P := Try.prog) (t := 83) (sz := 1) (by_ := 24) (by kernel_rfl : Try.prog.info? 83 = some Try.t83) rfl rfl rfl (by kernel_rfl)
abbrev u85 := U.mk (P := Try.prog) (t := 85) Try.underlying85
abbrev na85 := Na.mk (P := Try.prog) (t := 85) Try.isAgg85
abbrev inf85 := inf_mk (P := Try.prog) (t := 85) (sz := 1) (by_ := 8) (by kernel_rfl : Try.prog.info? 85 = some Try.t85) rfl rfl rfl (by kernel_rfl)
abbrev u86 := U.mk (P := Try.prog) (t := 86) Try.underlying86
abbrev na86 := Na.mk (P := Try.prog) (t := 86) Try.isAgg86
abbrev inf86 := inf_mk (P := Try.prog) (t := 86) (sz := 1) (by_ := 24) (by kernel_rfl : Try.prog.info? 86 = some Try.t86) rfl rfl rfl (by kernel_rfl)
abbrev u87 := U.mk (P := Try.prog) (t := 87) Try.underlying87
abbrev na87 := Na.mk (P := Try.prog) (t := 87) Try.isAgg87
abbrev inf87 := inf_mk (P := Try.prog) (t := 87) (sz := 1) (by_ := 8) (by kernel_rfl : Try.prog.info? 87 = some Try.t87) rfl rfl rfl (by kernel_rfl)
abbrev u88 := U.mk (P := Try.prog) (t := 88) Try.underlying88
abbrev ag88 := Ag.mk (P := Try.prog) (t := 88) (sz := 256) Try.isAgg88 Try.sizeOf88
abbrev inf88 := inf_mk (P := Try.prog) (t := 88) (sz := 256) (by_ := 256) (z := .agg Try.zeroCells88) (by kernel_rfl : Try.prog.info? 88 = some Try.t88) rfl rfl (by kernel_rfl) (by kernel_rfl)
abbrev u89 := U.mk (P := Try.prog) (t := 89) Try.underlying89
abbrev ag89 := Ag.mk (P := Try.prog) (t := 89) (sz := 259) Try.isAgg89 Try.sizeOf89
abbrev inf89 := inf_mk (P := Try.prog) (t := 89) (sz := 259) (by_ := 272) (z := .agg Try.zeroCells89) (by kernel_rfl : Try.prog.info? 89 = some Try.t89) rfl rfl (by kernel_rfl) (by kernel_rfl)
abbrev u90 := U.mk (P := Try.prog) (t := 90) Try.underlying90
abbrev ag90 := Ag.mk (P := Try.prog) (t := 90) (sz := 259) Try.isAgg90 Try.sizeOf90
abbrev inf90 := inf_mk (P := Try.prog) (t := 90) (sz := 259) (by_ := 272) (z := .agg Try.zeroCells90) (by kernel_rfl : Try.prog.info? 90 = some Try.t90) rfl rfl (by kernel_rfl) (by kernel_rfl)
abbrev u91 := U.mk (P := Try.prog) (t := 91) Try.underlying91
abbrev na91 := Na.mk (P := Try.prog) (t := 91) Try.isAgg91
abbrev inf91 := inf_mk (P := Try.prog) (t := 91) (sz := 1) (by_ := 8) (by kernel_rfl : Try.prog.info? 91 = some Try.t91) rfl rfl rfl (by kernel_rfl)
abbrev u92 := U.mk (P := Try.prog) (t := 92) Try.underlying92
abbrev ag92 := Ag.mk (P := Try.prog) (t := 92) (sz := 5) Try.isAgg92 Try.sizeOf92
abbrev inf92 := inf_mk (P := Try.prog) (t := 92) (sz := 5) (by_ := 5) (by kernel_rfl : Try.prog.info? 92 = some Try.t92) rfl rfl rfl (by kernel_rfl)
abbrev u94 := U.mk (P := Try.prog) (t := 94) Try.underlying94
abbrev na94 := Na.mk (P := Try.prog) (t := 94) Try.isAgg94
abbrev inf94 := inf_mk (P := Try.prog) (t := 94) (sz := 1) (by_ := 8) (by kernel_rfl : Try.prog.info? 94 = some Try.t94) rfl rfl rfl (by kernel_rfl)
abbrev u95 := U.mk (P := Try.prog) (t := 95) Try.underlying95
abbrev na95 := Na.mk (P := Try.prog) (t := 95) Try.isAgg95
abbrev inf95 := inf_mk (P := Try.prog) (t := 95) (sz := 1) (by_ := 8) (by kernel_rfl : Try.prog.info? 95 = some Try.t95) rfl rfl rfl (by kernel_rfl)
abbrev u96 := U.mk (P := Try.prog) (t := 96) Try.underlying96
abbrev na96 := Na.mk (P := Try.prog) (t := 96) Try.isAgg96
abbrev inf96 := inf_mk (P := Try.prog) (t := 96) (sz := 1) (by_ := 8) (by kernel_rfl : Try.prog.info? 96 = some Try.t96) rfl rfl rfl (by kernel_rfl)
abbrev u97 := U.mk (P := Try.prog) (t := 97) Try.underlying97
abbrev na97 := Na.mk (P := Try.prog) (t := 97) Try.isAgg97
abbrev inf97 := inf_mk (P := Try.prog) (t := 97) (sz := 1) (by_ := 8) (by kernel_rfl : Try.prog.info? 97 = some Try.t97) rfl rfl rfl (by kernel_rfl)
abbrev u98 := U.mk (P := Try.prog) (t := 98) Try.underlying98
abbrev na98 := Na.mk (P := Try.prog) (t := 98) Try.isAgg98
abbrev inf98 := inf_mk (P := Try.prog) (t := 98) (sz := 1) (by_ := 8) (by kernel_rfl : Try.prog.info? 98 = some Try.t98) rfl rfl rfl (by kernel_rfl)
abbrev u100 := U.mk (P := Try.prog) (t := 100) Try.underlying100
abbrev na100 := Na.mk (P := Try.prog) (t := 100) Try.isAgg100
abbrev inf100 := inf_mk (P := Try.prog) (t := 100) (sz := 1) (by_ := 8) (by kernel_rfl : Try.prog.info? 100 = some Try.t100) rfl rfl rfl (by kernel_rfl)
abbrev u101 := U.mk (P := Try.prog) (t := 101) Try.underlying101
abbrev na101 := Na.mk (P := Try.prog) (t := 101) Try.isAgg101
abbrev inf101 := inf_mk (P := Try.prog) (t := 101) (sz := 1) (by_ := 24) (by kernel_rfl : Try.prog.info? 101 = some Try.t101) rfl rfl rfl (by kernel_rfl)
abbrev u103 := U.mk (P := Try.prog) (t := 103) Try.underlying103
abbrev na103 := Na.mk (P := Try.prog) (t := 103) Try.isAgg103
abbrev inf103 := inf_mk (P := Try.prog) (t := 103) (sz := 1) (by_ := 8) (by kernel_rfl : Try.prog.info? 103 = some Try.t103) rfl rfl rfl (by kernel_rfl)
abbrev u104 := U.mk (P := Try.prog) (t := 104) Try.underlying104
abbrev ag104 := Ag.mk (P := Try.prog) (t := 104) (sz := 259) Try.isAgg104 Try.sizeOf104
abbrev inf104 := inf_mk (P := Try.prog) (t := 104) (sz := 259) (by_ := 272) (z := .agg Try.zeroCells104) (by kernel_rfl : Try.prog.info? 104 = some Try.t104) rfl rfl (by kernel_rfl) (by kernel_rfl)
abbrev u105 := U.mk (P := Try.prog) (t := 105) Try.underlying105
abbrev ag105 := Ag.mk (P := Try.prog) (t := 105) (sz := 259) Try.isAgg105 Try.sizeOf105
abbrev inf105 := inf_mk (P := Try.prog) (t := 105) (sz := 259) (by_ := 272) (z := .agg Try.zeroCells105) (by kernel_rfl : Try.prog.info? 105 = some Try.t105) rfl rfl (by kernel_rfl) (by kernel_rfl)
abbrev u106 := U.mk (P := Try.prog) (t := 106) Try.underlying106
abbrev na106 := Na.mk (P := Try.prog) (t := 106) Try.isAgg106
abbrev inf106 := inf_mk (P := Try.prog) (t := 106) (sz := 1) (by_ := 8) (by kernel_rfl : Try.prog.info? 106 = some Try.t106) rfl rfl rfl (by kernel_rfl)
abbrev u107 := U.mk (P := Try.prog) (t := 107) Try.underlying107
abbrev na107 := Na.mk (P := Try.prog) (t := 107) Try.isAgg107
abbrev inf107 := inf_mk (P := Try.prog) (t := 107) (sz := 1) (by_ := 4) (by kernel_rfl : Try.prog.info? 107 = some Try.t107) rfl rfl rfl (by kernel_rfl)
abbrev u109 := U.mk (P := Try.prog) (t := 109) Try.underlying109
abbrev na109 := Na.mk (P := Try.prog) (t := 109) Try.isAgg109
abbrev inf109 := inf_mk (P := Try.prog) (t := 109) (sz := 1) (by_ := 8) (by kernel_rfl : Try.prog.info? 109 = some Try.t109) rfl rfl rfl (by kernel_rfl)
abbrev u111 := U.mk (P := Try.prog) (t := 111) Try.underlying111
abbrev na111 := Na.mk (P := Try.prog) (t := 111) Try.isAgg111
abbrev inf111 := inf_mk (P := Try.prog) (t := 111) (sz := 1) (by_ := 8) (by kernel_rfl : Try.prog.info? 111 = some Try.t111) rfl rfl rfl (by kernel_rfl)
abbrev u112 := U.mk (P := Try.prog) (t := 112) Try.underlying112
abbrev na112 := Na.mk (P := Try.prog) (t := 112) Try.isAgg112
abbrev inf112 := inf_mk (P := Try.prog) (t := 112) (sz := 1) (by_ := 8) (by kernel_rfl : Try.prog.info? 112 = some Try.t112) rfl rfl rfl (by kernel_rfl)
abbrev u113 := U.mk (P := Try.prog) (t := 113) Try.underlying113
abbrev ag113 := Ag.mk (P := Try.prog) (t := 113) (sz := 4) Try.isAgg113 Try.sizeOf113
abbrev inf113 := inf_mk (P := Try.prog) (t := 113) (sz := 4) (by_ := 40) (by kernel_rfl : Try.prog.info? 113 = some Try.t113) rfl rfl rfl (by kernel_rfl)
abbrev u114 := U.mk (P := Try.prog) (t := 114) Try.underlying114
abbrev ag114 := Ag.mk (P := Try.prog) (t := 114) (sz := 4) Try.isAgg114 Try.sizeOf114
abbrev inf114 := inf_mk (P := Try.prog) (t := 114) (sz := 4) (by_ := 40) (by kernel_rfl : Try.prog.info? 114 = some Try.t114) rfl rfl rfl (by kernel_rfl)
abbrev u115 := U.mk (P := Try.prog) (t := 115) Try.underlying115
abbrev ag115 := Ag.mk (P := Try.prog) (t := 115) (sz := 0) Try.isAgg115 Try.sizeOf115
abbrev u116 := U.mk (P := Try.prog) (t := 116) Try.underlying116
abbrev ag116 := Ag.mk (P := Try.prog) (t := 116) (sz := 0) Try.isAgg116 Try.sizeOf116
abbrev u117 := U.mk (P := Try.prog) (t := 117) Try.underlying117
abbrev ag117 := Ag.mk (P := Try.prog) (t := 117) (sz := 0) Try.isAgg117 Try.sizeOf117
abbrev u118 := U.mk (P := Try.prog) (t := 118) Try.underlying118
abbrev na118 := Na.mk (P := Try.prog) (t := 118) Try.isAgg118
abbrev inf118 := inf_mk (P := Try.prog) (t := 118) (sz := 1) (by_ := 8) (by kernel_rfl : Try.prog.info? 118 = some Try.t118) rfl rfl rfl (by kernel_rfl)
abbrev u119 := U.mk (P := Try.prog) (t := 119) Try.underlying119
abbrev na119 := Na.mk (P := Try.prog) (t := 119) Try.isAgg119
abbrev inf119 := inf_mk (P := Try.prog) (t := 119) (sz := 1) (by_ := 1) (by kernel_rfl : Try.prog.info? 119 = some Try.t119) rfl rfl rfl (by kernel_rfl)
abbrev u120 := U.mk (P := Try.prog) (t := 120) Try.underlying120
abbrev na120 := Na.mk (P := Try.prog) (t := 120) Try.isAgg120
abbrev inf120 := inf_mk (P := Try.prog) (t := 120) (sz := 1) (by_ := 1) (by kernel_rfl : Try.prog.info? 120 = some Try.t120) rfl rfl rfl (by kernel_rfl)
abbrev u121 := U.mk (P := Try.prog) (t := 121) Try.underlying121
abbrev na121 := Na.mk (P := Try.prog) (t := 121) Try.isAgg121
abbrev inf121 := inf_mk (P := Try.prog) (t := 121) (sz := 1) (by_ := 8) (by kernel_rfl : Try.prog.info? 121 = some Try.t121) rfl rfl rfl (by kernel_rfl)
abbrev u122 := U.mk (P := Try.prog) (t := 122) Try.underlying122
abbrev na122 := Na.mk (P := Try.prog) (t := 122) Try.isAgg122
abbrev inf122 := inf_mk (P := Try.prog) (t := 122) (sz := 1) (by_ := 8) (by kernel_rfl : Try.prog.info? 122 = some Try.t122) rfl rfl rfl (by kernel_rfl)
abbrev u123 := U.mk (P := Try.prog) (t := 123) Try.underlying123
abbrev na123 := Na.mk (P := Try.prog) (t := 123) Try.isAgg123
abbrev inf123 := inf_mk (P := Try.prog) (t := 123) (sz := 1) (by_ := 4) (by kernel_rfl : Try.prog.info? 123 = some Try.t123) rfl rfl rfl (by kernel_rfl)
abbrev u124 := U.mk (P := Try.prog) (t := 124) Try.underlying124
abbrev na124 := Na.mk (P := Try.prog) (t := 124) Try.isAgg124
abbrev inf124 := inf_mk (P := Try.prog) (t := 124) (sz := 1) (by_ := 4) (by kernel_rfl : Try.prog.info? 124 = some Try.t124) rfl rfl rfl (by kernel_rfl)
abbrev u125 := U.mk (P := Try.prog) (t := 125) Try.underlying125
abbrev ag125 := Ag.mk (P := Try.prog) (t := 125) (sz := 11) Try.isAgg125 Try.sizeOf125
abbrev inf125 := inf_mk (P := Try.prog) (t := 125) (sz := 11) (by_ := 48) (by kernel_rfl : Try.prog.info? 125 = some Try.t125) rfl rfl rfl (by kernel_rfl)
abbrev u126 := U.mk (P := Try.prog) (t := 126) Try.underlying126
abbrev ag126 := Ag.mk (P := Try.prog) (t := 126) (sz := 11) Try.isAgg126 Try.sizeOf126
abbrev inf126 := inf_mk (P := Try.prog) (t := 126) (sz := 11) (by_ := 48) (by kernel_rfl : Try.prog.info? 126 = some Try.t126) rfl rfl rfl (by kernel_rfl)
abbrev u127 := U.mk (P := Try.prog) (t := 127) Try.underlying127
abbrev na127 := Na.mk (P := Try.prog) (t := 127) Try.isAgg127
abbrev inf127 := inf_mk (P := Try.prog) (t := 127) (sz := 1) (by_ := 8) (by kernel_rfl : Try.prog.info? 127 = some Try.t127) rfl rfl rfl (by kernel_rfl)
attribute [instance] u1 na1 inf1 u2 na2 inf2 u3 na3 inf3 u4 na4 inf4 u5 na5 inf5 u6 na6 inf6 u7 ag7 inf7 u8 ag8 inf8 u9 na9 inf9 u10 na10 inf10 u11 na11 inf11 u12 na12 inf12 u13 ag13 inf13 u14 ag14 inf14 u15 na15 inf15 u16 na16 inf16 u17 na17 inf17 u18 ag18 inf18 u19 ag19 inf19 u20 na20 inf20 u21 na21 inf21 u22 na22 inf22 u23 na23 inf23 u24 ag24 inf24 u25 ag25 inf25 u26 na26 inf26 u27 na27 inf27 u28 na28 inf28 u30 na30 inf30 u31 na31 inf31 u32 na32 inf32 u33 na33 inf33 u34 ag34 inf34 u35 ag35 inf35 u36 ag36 inf36 u37 ag37 inf37 u39 na39 inf39 u40 na40 inf40 u41 na41 inf41 u42 na42 inf42 u43 na43 inf43 u44 na44 inf44 u45 na45 inf45 u46 na46 inf46 u47 ag47 inf47 u48 ag48 inf48 u49 na49 inf49 u50 na50 inf50 u51 na51 inf51 u52 na52 inf52 u53 na53 inf53 u54 ag54 inf54 u55 ag55 inf55 u56 na56 inf56 u57 na57 inf57 u58 na58 inf58 u59 na59 inf59 u60 na60 inf60 u61 na61 inf61 u62 na62 inf62 u63 na63 inf63 u64 na64 inf64 u65 na65 inf65 u66 na66 inf66 u67 na67 inf67 u68 na68 inf68 u69 na69 inf69 u70 na70 inf70 u71 na71 inf71 u72 na72 inf72 u73 na73 inf73 u75 na75 inf75 u76 na76 inf76 u77 na77 inf77 u78 na78 inf78 u79 na79 inf79 u80 na80 inf80 u81 na81 inf81 u82 na82 inf82 u83 na83 inf83 u85 na85 inf85 u86 na86 inf86 u87 na87 inf87 u88 ag88 inf88 u89 ag89 inf89 u90 ag90 inf90 u91 na91 inf91 u92 ag92 inf92 u94 na94 inf94 u95 na95 inf95 u96 na96 inf96 u97 na97 inf97 u98 na98 inf98 u100 na100 inf100 u101 na101 inf101 u103 na103 inf103 u104 ag104 inf104 u105 ag105 inf105 u106 na106 inf106 u107 na107 inf107 u109 na109 inf109 u111 na111 inf111 u112 na112 inf112 u113 ag113 inf113 u114 ag114 inf114 u115 ag115 u116 ag116 u117 ag117 u118 na118 inf118 u119 na119 inf119 u120 na120 inf120 u121 na121 inf121 u122 na122 inf122 u123 na123 inf123 u124 na124 inf124 u125 ag125 inf125 u126 ag126 inf126 u127 na127 inf127
theorem fd7_0 : Fd Try.prog 7 0 0 := fd_mk (P := Try.prog) (s := 7) (i := 0) Try.underlying7 rfl inf2 (by decide)
theorem fv7_0 : Fv Try.prog 7 0 0 := fv_mk (P := Try.prog) (s := 7) (i := 0) Try.underlying7 rfl na2
theorem fd7_1 : Fd Try.prog 7 1 1 := fd_mk (P := Try.prog) (s := 7) (i := 1) Try.underlying7 rfl inf3 (by decide)
theorem fv7_1 : Fv Try.prog 7 1 1 := fv_mk (P := Try.prog) (s := 7) (i := 1) Try.underlying7 rfl na3
theorem fd7_2 : Fd Try.prog 7 2 2 := fd_mk (P := Try.prog) (s := 7) (i := 2) Try.underlying7 rfl inf4 (by decide)
theorem fv7_2 : Fv Try.prog 7 2 2 := fv_mk (P := Try.prog) (s := 7) (i := 2) Try.underlying7 rfl na4
theorem fd7_3 : Fd Try.prog 7 3 3 := fd_mk (P := Try.prog) (s := 7) (i := 3) Try.underlying7 rfl inf6 (by decide)
theorem fv7_3 : Fv Try.prog 7 3 3 := fv_mk (P := Try.prog) (s := 7) (i := 3) Try.underlying7 rfl na6
theorem fd8_0 : Fd Try.prog 8 0 0 := fd_mk (P := Try.prog) (s := 8) (i := 0) Try.underlying8 rfl inf2 (by decide)
theorem fv8_0 : Fv Try.prog 8 0 0 := fv_mk (P := Try.prog) (s := 8) (i := 0) Try.underlying8 rfl na2
theorem fd8_1 : Fd Try.prog 8 1 1 := fd_mk (P := Try.prog) (s := 8) (i := 1) Try.underlying8 rfl inf3 (by decide)
theorem fv8_1 : Fv Try.prog 8 1 1 := fv_mk (P := Try.prog) (s := 8) (i := 1) Try.underlying8 rfl na3
theorem fd8_2 : Fd Try.prog 8 2 2 := fd_mk (P := Try.prog) (s := 8) (i := 2) Try.underlying8 rfl inf4 (by decide)
theorem fv8_2 : Fv Try.prog 8 2 2 := fv_mk (P := Try.prog) (s := 8) (i := 2) Try.underlying8 rfl na4
theorem fd8_3 : Fd Try.prog 8 3 3 := fd_mk (P := Try.prog) (s := 8) (i := 3) Try.underlying8 rfl inf6 (by decide)
theorem fv8_3 : Fv Try.prog 8 3 3 := fv_mk (P := Try.prog) (s := 8) (i := 3) Try.underlying8 rfl na6
theorem fd13_0 : Fd Try.prog 13 0 0 := fd_mk (P := Try.prog) (s := 13) (i := 0) Try.underlying13 rfl inf9 (by decide)
theorem fv13_0 : Fv Try.prog 13 0 0 := fv_mk (P := Try.prog) (s := 13) (i := 0) Try.underlying13 rfl na9
theorem fd13_1 : Fd Try.prog 13 1 1 := fd_mk (P := Try.prog) (s := 13) (i := 1) Try.underlying13 rfl inf12 (by decide)
theorem fv13_1 : Fv Try.prog 13 1 1 := fv_mk (P := Try.prog) (s := 13) (i := 1) Try.underlying13 rfl na12
theorem fd14_0 : Fd Try.prog 14 0 0 := fd_mk (P := Try.prog) (s := 14) (i := 0) Try.underlying14 rfl inf9 (by decide)
theorem fv14_0 : Fv Try.prog 14 0 0 := fv_mk (P := Try.prog) (s := 14) (i := 0) Try.underlying14 rfl na9
theorem fd14_1 : Fd Try.prog 14 1 1 := fd_mk (P := Try.prog) (s := 14) (i := 1) Try.underlying14 rfl inf12 (by decide)
theorem fv14_1 : Fv Try.prog 14 1 1 := fv_mk (P := Try.prog) (s := 14) (i := 1) Try.underlying14 rfl na12
theorem fd18_0 : Fd Try.prog 18 0 0 := fd_mk (P := Try.prog) (s := 18) (i := 0) Try.underlying18 rfl inf17 (by decide)
theorem fv18_0 : Fv Try.prog 18 0 0 := fv_mk (P := Try.prog) (s := 18) (i := 0) Try.underlying18 rfl na17
theorem fd19_0 : Fd Try.prog 19 0 0 := fd_mk (P := Try.prog) (s := 19) (i := 0) Try.underlying19 rfl inf17 (by decide)
theorem fv19_0 : Fv Try.prog 19 0 0 := fv_mk (P := Try.prog) (s := 19) (i := 0) Try.underlying19 rfl na17
theorem fd24_0 : Fd Try.prog 24 0 0 := fd_mk (P := Try.prog) (s := 24) (i := 0) Try.underlying24 rfl inf3 (by decide)
theorem fv24_0 : Fv Try.prog 24 0 0 := fv_mk (P := Try.prog) (s := 24) (i := 0) Try.underlying24 rfl na3
theorem fd24_1 : Fd Try.prog 24 1 1 := fd_mk (P := Try.prog) (s := 24) (i := 1) Try.underlying24 rfl inf3 (by decide)
theorem fv24_1 : Fv Try.prog 24 1 1 := fv_mk (P := Try.prog) (s := 24) (i := 1) Try.underlying24 rfl na3
theorem fd24_2 : Fd Try.prog 24 2 2 := fd_mk (P := Try.prog) (s := 24) (i := 2) Try.underlying24 rfl inf4 (by decide)
theorem fv24_2 : Fv Try.prog 24 2 2 := fv_mk (P := Try.prog) (s := 24) (i := 2) Try.underlying24 rfl na4
theorem fd24_3 : Fd Try.prog 24 3 3 := fd_mk (P := Try.prog) (s := 24) (i := 3) Try.underlying24 rfl inf4 (by decide)
theorem fv24_3 : Fv Try.prog 24 3 3 := fv_mk (P := Try.prog) (s := 24) (i := 3) Try.underlying24 rfl na4
theorem fd24_4 : Fd Try.prog 24 4 4 := fd_mk (P := Try.prog) (s := 24) (i := 4) Try.underlying24 rfl inf4 (by decide)
theorem fv24_4 : Fv Try.prog 24 4 4 := fv_mk (P := Try.prog) (s := 24) (i := 4) Try.underlying24 rfl na4
theorem fd24_5 : Fd Try.prog 24 5 5 := fd_mk (P := Try.prog) (s := 24) (i := 5) Try.underlying24 rfl inf4 (by decide)
theorem fv24_5 : Fv Try.prog 24 5 5 := fv_mk (P := Try.prog) (s := 24) (i := 5) Try.underlying24 rfl na4
theorem fd24_6 : Fd Try.prog 24 6 6 := fd_mk (P := Try.prog) (s := 24) (i := 6) Try.underlying24 rfl inf4 (by decide)
theorem fv24_6 : Fv Try.prog 24 6 6 := fv_mk (P := Try.prog) (s := 24) (i := 6) Try.underlying24 rfl na4
theorem fd24_7 : Fd Try.prog 24 7 7 := fd_mk (P := Try.prog) (s := 24) (i := 7) Try.underlying24 rfl inf4 (by decide)
theorem fv24_7 : Fv Try.prog 24 7 7 := fv_mk (P := Try.prog) (s := 24) (i := 7) Try.underlying24 rfl na4
theorem fd24_8 : Fd Try.prog 24 8 8 := fd_mk (P := Try.prog) (s := 24) (i := 8) Try.underlying24 rfl inf4 (by decide)
theorem fv24_8 : Fv Try.prog 24 8 8 := fv_mk (P := Try.prog) (s := 24) (i := 8) Try.underlying24 rfl na4
theorem fd24_9 : Fd Try.prog 24 9 9 := fd_mk (P := Try.prog) (s := 24) (i := 9) Try.underlying24 rfl inf4 (by decide)
theorem fv24_9 : Fv Try.prog 24 9 9 := fv_mk (P := Try.prog) (s := 24) (i := 9) Try.underlying24 rfl na4
theorem fd24_10 : Fd Try.prog 24 10 10 := fd_mk (P := Try.prog) (s := 24) (i := 10) Try.underlying24 rfl inf4 (by decide)
theorem fv24_10 : Fv Try.prog 24 10 10 := fv_mk (P := Try.prog) (s := 24) (i := 10) Try.underlying24 rfl na4
theorem fd24_11 : Fd Try.prog 24 11 11 := fd_mk (P := Try.prog) (s := 24) (i := 11) Try.underlying24 rfl inf4 (by decide)
theorem fv24_11 : Fv Try.prog 24 11 11 := fv_mk (P := Try.prog) (s := 24) (i := 11) Try.underlying24 rfl na4
theorem fd24_12 : Fd Try.prog 24 12 12 := fd_mk (P := Try.prog) (s := 24) (i := 12) Try.underlying24 rfl inf4 (by decide)
theorem fv24_12 : Fv Try.prog 24 12 12 := fv_mk (P := Try.prog) (s := 24) (i := 12) Try.underlying24 rfl na4
theorem fd24_13 : Fd Try.prog 24 13 13 := fd_mk (P := Try.prog) (s := 24) (i := 13) Try.underlying24 rfl inf4 (by decide)
theorem fv24_13 : Fv Try.prog 24 13 13 := fv_mk (P := Try.prog) (s := 24) (i := 13) Try.underlying24 rfl na4
theorem fd24_14 : Fd Try.prog 24 14 14 := fd_mk (P := Try.prog) (s := 24) (i := 14) Try.underlying24 rfl inf4 (by decide)
theorem fv24_14 : Fv Try.prog 24 14 14 := fv_mk (P := Try.prog) (s := 24) (i := 14) Try.underlying24 rfl na4
theorem fd24_15 : Fd Try.prog 24 15 15 := fd_mk (P := Try.prog) (s := 24) (i := 15) Try.underlying24 rfl inf4 (by decide)
theorem fv24_15 : Fv Try.prog 24 15 15 := fv_mk (P := Try.prog) (s := 24) (i := 15) Try.underlying24 rfl na4
theorem fd24_16 : Fd Try.prog 24 16 16 := fd_mk (P := Try.prog) (s := 24) (i := 16) Try.underlying24 rfl inf4 (by decide)
theorem fv24_16 : Fv Try.prog 24 16 16 := fv_mk (P := Try.prog) (s := 24) (i := 16) Try.underlying24 rfl na4
theorem fd24_17 : Fd Try.prog 24 17 17 := fd_mk (P := Try.prog) (s := 24) (i := 17) Try.underlying24 rfl inf4 (by decide)
theorem fv24_17 : Fv Try.prog 24 17 17 := fv_mk (P := Try.prog) (s := 24) (i := 17) Try.underlying24 rfl na4
theorem fd24_18 : Fd Try.prog 24 18 18 := fd_mk (P := Try.prog) (s := 24) (i := 18) Try.underlying24 rfl inf3 (by decide)
theorem fv24_18 : Fv Try.prog 24 18 18 := fv_mk (P := Try.prog) (s := 24) (i := 18) Try.underlying24 rfl na3
theorem fd24_19 : Fd Try.prog 24 19 19 := fd_mk (P := Try.prog) (s := 24) (i := 19) Try.underlying24 rfl inf3 (by decide)
theorem fv24_19 : Fv Try.prog 24 19 19 := fv_mk (P := Try.prog) (s := 24) (i := 19) Try.underlying24 rfl na3
theorem fd24_20 : Fd Try.prog 24 20 20 := fd_mk (P := Try.prog) (s := 24) (i := 20) Try.underlying24 rfl inf3 (by decide)
theorem fv24_20 : Fv Try.prog 24 20 20 := fv_mk (P := Try.prog) (s := 24) (i := 20) Try.underlying24 rfl na3
theorem fd25_0 : Fd Try.prog 25 0 0 := fd_mk (P := Try.prog) (s := 25) (i := 0) Try.underlying25 rfl inf3 (by decide)
theorem fv25_0 : Fv Try.prog 25 0 0 := fv_mk (P := Try.prog) (s := 25) (i := 0) Try.underlying25 rfl na3
theorem fd25_1 : Fd Try.prog 25 1 1 := fd_mk (P := Try.prog) (s := 25) (i := 1) Try.underlying25 rfl inf3 (by decide)
theorem fv25_1 : Fv Try.prog 25 1 1 := fv_mk (P := Try.prog) (s := 25) (i := 1) Try.underlying25 rfl na3
theorem fd25_2 : Fd Try.prog 25 2 2 := fd_mk (P := Try.prog) (s := 25) (i := 2) Try.underlying25 rfl inf4 (by decide)
theorem fv25_2 : Fv Try.prog 25 2 2 := fv_mk (P := Try.prog) (s := 25) (i := 2) Try.underlying25 rfl na4
theorem fd25_3 : Fd Try.prog 25 3 3 := fd_mk (P := Try.prog) (s := 25) (i := 3) Try.underlying25 rfl inf4 (by decide)
theorem fv25_3 : Fv Try.prog 25 3 3 := fv_mk (P := Try.prog) (s := 25) (i := 3) Try.underlying25 rfl na4
theorem fd25_4 : Fd Try.prog 25 4 4 := fd_mk (P := Try.prog) (s := 25) (i := 4) Try.underlying25 rfl inf4 (by decide)
theorem fv25_4 : Fv Try.prog 25 4 4 := fv_mk (P := Try.prog) (s := 25) (i := 4) Try.underlying25 rfl na4
theorem fd25_5 : Fd Try.prog 25 5 5 := fd_mk (P := Try.prog) (s := 25) (i := 5) Try.underlying25 rfl inf4 (by decide)
theorem fv25_5 : Fv Try.prog 25 5 5 := fv_mk (P := Try.prog) (s := 25) (i := 5) Try.underlying25 rfl na4
theorem fd25_6 : Fd Try.prog 25 6 6 := fd_mk (P := Try.prog) (s := 25) (i := 6) Try.underlying25 rfl inf4 (by decide)
theorem fv25_6 : Fv Try.prog 25 6 6 := fv_mk (P := Try.prog) (s := 25) (i := 6) Try.underlying25 rfl na4
theorem fd25_7 : Fd Try.prog 25 7 7 := fd_mk (P := Try.prog) (s := 25) (i := 7) Try.underlying25 rfl inf4 (by decide)
theorem fv25_7 : Fv Try.prog 25 7 7 := fv_mk (P := Try.prog) (s := 25) (i := 7) Try.underlying25 rfl na4
theorem fd25_8 : Fd Try.prog 25 8 8 := fd_mk (P := Try.prog) (s := 25) (i := 8) Try.underlying25 rfl inf4 (by decide)
theorem fv25_8 : Fv Try.prog 25 8 8 := fv_mk (P := Try.prog) (s := 25) (i := 8) Try.underlying25 rfl na4
theorem fd25_9 : Fd Try.prog 25 9 9 := fd_mk (P := Try.prog) (s := 25) (i := 9) Try.underlying25 rfl inf4 (by decide)
theorem fv25_9 : Fv Try.prog 25 9 9 := fv_mk (P := Try.prog) (s := 25) (i := 9) Try.underlying25 rfl na4
theorem fd25_10 : Fd Try.prog 25 10 10 := fd_mk (P := Try.prog) (s := 25) (i := 10) Try.underlying25 rfl inf4 (by decide)
theorem fv25_10 : Fv Try.prog 25 10 10 := fv_mk (P := Try.prog) (s := 25) (i := 10) Try.underlying25 rfl na4
theorem fd25_11 : Fd Try.prog 25 11 11 := fd_mk (P := Try.prog) (s := 25) (i := 11) Try.underlying25 rfl inf4 (by decide)
theorem fv25_11 : Fv Try.prog 25 11 11 := fv_mk (P := Try.prog) (s := 25) (i := 11) Try.underlying25 rfl na4
theorem fd25_12 : Fd Try.prog 25 12 12 := fd_mk (P := Try.prog) (s := 25) (i := 12) Try.underlying25 rfl inf4 (by decide)
theorem fv25_12 : Fv Try.prog 25 12 12 := fv_mk (P := Try.prog) (s := 25) (i := 12) Try.underlying25 rfl na4
theorem fd25_13 : Fd Try.prog 25 13 13 := fd_mk (P := Try.prog) (s := 25) (i := 13) Try.underlying25 rfl inf4 (by decide)
theorem fv25_13 : Fv Try.prog 25 13 13 := fv_mk (P := Try.prog) (s := 25) (i := 13) Try.underlying25 rfl na4
theorem fd25_14 : Fd Try.prog 25 14 14 := fd_mk (P := Try.prog) (s := 25) (i := 14) Try.underlying25 rfl inf4 (by decide)
theorem fv25_14 : Fv Try.prog 25 14 14 := fv_mk (P := Try.prog) (s := 25) (i := 14) Try.underlying25 rfl na4
theorem fd25_15 : Fd Try.prog 25 15 15 := fd_mk (P := Try.prog) (s := 25) (i := 15) Try.underlying25 rfl inf4 (by decide)
theorem fv25_15 : Fv Try.prog 25 15 15 := fv_mk (P := Try.prog) (s := 25) (i := 15) Try.underlying25 rfl na4
theorem fd25_16 : Fd Try.prog 25 16 16 := fd_mk (P := Try.prog) (s := 25) (i := 16) Try.underlying25 rfl inf4 (by decide)
theorem fv25_16 : Fv Try.prog 25 16 16 := fv_mk (P := Try.prog) (s := 25) (i := 16) Try.underlying25 rfl na4
theorem fd25_17 : Fd Try.prog 25 17 17 := fd_mk (P := Try.prog) (s := 25) (i := 17) Try.underlying25 rfl inf4 (by decide)
theorem fv25_17 : Fv Try.prog 25 17 17 := fv_mk (P := Try.prog) (s := 25) (i := 17) Try.underlying25 rfl na4
theorem fd25_18 : Fd Try.prog 25 18 18 := fd_mk (P := Try.prog) (s := 25) (i := 18) Try.underlying25 rfl inf3 (by decide)
theorem fv25_18 : Fv Try.prog 25 18 18 := fv_mk (P := Try.prog) (s := 25) (i := 18) Try.underlying25 rfl na3
theorem fd25_19 : Fd Try.prog 25 19 19 := fd_mk (P := Try.prog) (s := 25) (i := 19) Try.underlying25 rfl inf3 (by decide)
theorem fv25_19 : Fv Try.prog 25 19 19 := fv_mk (P := Try.prog) (s := 25) (i := 19) Try.underlying25 rfl na3
theorem fd25_20 : Fd Try.prog 25 20 20 := fd_mk (P := Try.prog) (s := 25) (i := 20) Try.underlying25 rfl inf3 (by decide)
theorem fv25_20 : Fv Try.prog 25 20 20 := fv_mk (P := Try.prog) (s := 25) (i := 20) Try.underlying25 rfl na3
theorem fd34_0 : Fd Try.prog 34 0 0 := fd_mk (P := Try.prog) (s := 34) (i := 0) Try.underlying34 rfl inf3 (by decide)
theorem fv34_0 : Fv Try.prog 34 0 0 := fv_mk (P := Try.prog) (s := 34) (i := 0) Try.underlying34 rfl na3
theorem fd34_1 : Fd Try.prog 34 1 1 := fd_mk (P := Try.prog) (s := 34) (i := 1) Try.underlying34 rfl inf3 (by decide)
theorem fv34_1 : Fv Try.prog 34 1 1 := fv_mk (P := Try.prog) (s := 34) (i := 1) Try.underlying34 rfl na3
theorem fd34_2 : Fd Try.prog 34 2 2 := fd_mk (P := Try.prog) (s := 34) (i := 2) Try.underlying34 rfl inf3 (by decide)
theorem fv34_2 : Fv Try.prog 34 2 2 := fv_mk (P := Try.prog) (s := 34) (i := 2) Try.underlying34 rfl na3
theorem fd34_3 : Fd Try.prog 34 3 3 := fd_mk (P := Try.prog) (s := 34) (i := 3) Try.underlying34 rfl inf3 (by decide)
theorem fv34_3 : Fv Try.prog 34 3 3 := fv_mk (P := Try.prog) (s := 34) (i := 3) Try.underlying34 rfl na3
theorem fd34_4 : Fd Try.prog 34 4 4 := fd_mk (P := Try.prog) (s := 34) (i := 4) Try.underlying34 rfl inf3 (by decide)
theorem fv34_4 : Fv Try.prog 34 4 4 := fv_mk (P := Try.prog) (s := 34) (i := 4) Try.underlying34 rfl na3
theorem fd35_0 : Fd Try.prog 35 0 0 := fd_mk (P := Try.prog) (s := 35) (i := 0) Try.underlying35 rfl inf3 (by decide)
theorem fv35_0 : Fv Try.prog 35 0 0 := fv_mk (P := Try.prog) (s := 35) (i := 0) Try.underlying35 rfl na3
theorem fd35_1 : Fd Try.prog 35 1 1 := fd_mk (P := Try.prog) (s := 35) (i := 1) Try.underlying35 rfl inf3 (by decide)
theorem fv35_1 : Fv Try.prog 35 1 1 := fv_mk (P := Try.prog) (s := 35) (i := 1) Try.underlying35 rfl na3
theorem fd35_2 : Fd Try.prog 35 2 2 := fd_mk (P := Try.prog) (s := 35) (i := 2) Try.underlying35 rfl inf3 (by decide)
theorem fv35_2 : Fv Try.prog 35 2 2 := fv_mk (P := Try.prog) (s := 35) (i := 2) Try.underlying35 rfl na3
theorem fd35_3 : Fd Try.prog 35 3 3 := fd_mk (P := Try.prog) (s := 35) (i := 3) Try.underlying35 rfl inf3 (by decide)
theorem fv35_3 : Fv Try.prog 35 3 3 := fv_mk (P := Try.prog) (s := 35) (i := 3) Try.underlying35 rfl na3
theorem fd35_4 : Fd Try.prog 35 4 4 := fd_mk (P := Try.prog) (s := 35) (i := 4) Try.underlying35 rfl inf3 (by decide)
theorem fv35_4 : Fv Try.prog 35 4 4 := fv_mk (P := Try.prog) (s := 35) (i := 4) Try.underlying35 rfl na3
theorem fd36_0 : Fd Try.prog 36 0 0 := fd_mk (P := Try.prog) (s := 36) (i := 0) Try.underlying36 rfl inf9 (by decide)
theorem fv36_0 : Fv Try.prog 36 0 0 := fv_mk (P := Try.prog) (s := 36) (i := 0) Try.underlying36 rfl na9
theorem fd36_1 : Fd Try.prog 36 1 1 := fd_mk (P := Try.prog) (s := 36) (i := 1) Try.underlying36 rfl inf3 (by decide)
theorem fv36_1 : Fv Try.prog 36 1 1 := fv_mk (P := Try.prog) (s := 36) (i := 1) Try.underlying36 rfl na3
theorem fd36_2 : Fd Try.prog 36 2 2 := fd_mk (P := Try.prog) (s := 36) (i := 2) Try.underlying36 rfl inf3 (by decide)
theorem fv36_2 : Fv Try.prog 36 2 2 := fv_mk (P := Try.prog) (s := 36) (i := 2) Try.underlying36 rfl na3
theorem fd36_3 : Fd Try.prog 36 3 3 := fd_mk (P := Try.prog) (s := 36) (i := 3) Try.underlying36 rfl inf35 (by decide)
theorem fs36_3 : Fs Try.prog 36 3 3 5 := fs_mk (P := Try.prog) (s := 36) (i := 3) Try.underlying36 rfl ag35
theorem fd36_4 : Fd Try.prog 36 4 8 := fd_mk (P := Try.prog) (s := 36) (i := 4) Try.underlying36 rfl inf9 (by decide)
theorem fv36_4 : Fv Try.prog 36 4 8 := fv_mk (P := Try.prog) (s := 36) (i := 4) Try.underlying36 rfl na9
theorem fd36_5 : Fd Try.prog 36 5 9 := fd_mk (P := Try.prog) (s := 36) (i := 5) Try.underlying36 rfl inf9 (by decide)
theorem fv36_5 : Fv Try.prog 36 5 9 := fv_mk (P := Try.prog) (s := 36) (i := 5) Try.underlying36 rfl na9
theorem fd36_6 : Fd Try.prog 36 6 10 := fd_mk (P := Try.prog) (s := 36) (i := 6) Try.underlying36 rfl inf3 (by decide)
theorem fv36_6 : Fv Try.prog 36 6 10 := fv_mk (P := Try.prog) (s := 36) (i := 6) Try.underlying36 rfl na3
theorem fd37_0 : Fd Try.prog 37 0 0 := fd_mk (P := Try.prog) (s := 37) (i := 0) Try.underlying37 rfl inf9 (by decide)
theorem fv37_0 : Fv Try.prog 37 0 0 := fv_mk (P := Try.prog) (s := 37) (i := 0) Try.underlying37 rfl na9
theorem fd37_1 : Fd Try.prog 37 1 1 := fd_mk (P := Try.prog) (s := 37) (i := 1) Try.underlying37 rfl inf3 (by decide)
theorem fv37_1 : Fv Try.prog 37 1 1 := fv_mk (P := Try.prog) (s := 37) (i := 1) Try.underlying37 rfl na3
theorem fd37_2 : Fd Try.prog 37 2 2 := fd_mk (P := Try.prog) (s := 37) (i := 2) Try.underlying37 rfl inf3 (by decide)
theorem fv37_2 : Fv Try.prog 37 2 2 := fv_mk (P := Try.prog) (s := 37) (i := 2) Try.underlying37 rfl na3
theorem fd37_3 : Fd Try.prog 37 3 3 := fd_mk (P := Try.prog) (s := 37) (i := 3) Try.underlying37 rfl inf35 (by decide)
theorem fs37_3 : Fs Try.prog 37 3 3 5 := fs_mk (P := Try.prog) (s := 37) (i := 3) Try.underlying37 rfl ag35
theorem fd37_4 : Fd Try.prog 37 4 8 := fd_mk (P := Try.prog) (s := 37) (i := 4) Try.underlying37 rfl inf9 (by decide)
theorem fv37_4 : Fv Try.prog 37 4 8 := fv_mk (P := Try.prog) (s := 37) (i := 4) Try.underlying37 rfl na9
theorem fd37_5 : Fd Try.prog 37 5 9 := fd_mk (P := Try.prog) (s := 37) (i := 5) Try.underlying37 rfl inf9 (by decide)
theorem fv37_5 : Fv Try.prog 37 5 9 := fv_mk (P := Try.prog) (s := 37) (i := 5) Try.underlying37 rfl na9
theorem fd37_6 : Fd Try.prog 37 6 10 := fd_mk (P := Try.prog) (s := 37) (i := 6) Try.underlying37 rfl inf3 (by decide)
theorem fv37_6 : Fv Try.prog 37 6 10 := fv_mk (P := Try.prog) (s := 37) (i := 6) Try.underlying37 rfl na3
theorem fd47_0 : Fd Try.prog 47 0 0 := fd_mk (P := Try.prog) (s := 47) (i := 0) Try.underlying47 rfl inf3 (by decide)
theorem fv47_0 : Fv Try.prog 47 0 0 := fv_mk (P := Try.prog) (s := 47) (i := 0) Try.underlying47 rfl na3
theorem fd47_1 : Fd Try.prog 47 1 1 := fd_mk (P := Try.prog) (s := 47) (i := 1) Try.underlying47 rfl inf9 (by decide)
theorem fv47_1 : Fv Try.prog 47 1 1 := fv_mk (P := Try.prog) (s := 47) (i := 1) Try.underlying47 rfl na9
theorem fd47_2 : Fd Try.prog 47 2 2 := fd_mk (P := Try.prog) (s := 47) (i := 2) Try.underlying47 rfl inf4 (by decide)
theorem fv47_2 : Fv Try.prog 47 2 2 := fv_mk (P := Try.prog) (s := 47) (i := 2) Try.underlying47 rfl na4
theorem fd47_3 : Fd Try.prog 47 3 3 := fd_mk (P := Try.prog) (s := 47) (i := 3) Try.underlying47 rfl inf4 (by decide)
theorem fv47_3 : Fv Try.prog 47 3 3 := fv_mk (P := Try.prog) (s := 47) (i := 3) Try.underlying47 rfl na4
theorem fd48_0 : Fd Try.prog 48 0 0 := fd_mk (P := Try.prog) (s := 48) (i := 0) Try.underlying48 rfl inf3 (by decide)
theorem fv48_0 : Fv Try.prog 48 0 0 := fv_mk (P := Try.prog) (s := 48) (i := 0) Try.underlying48 rfl na3
theorem fd48_1 : Fd Try.prog 48 1 1 := fd_mk (P := Try.prog) (s := 48) (i := 1) Try.underlying48 rfl inf9 (by decide)
theorem fv48_1 : Fv Try.prog 48 1 1 := fv_mk (P := Try.prog) (s := 48) (i := 1) Try.underlying48 rfl na9
theorem fd48_2 : Fd Try.prog 48 2 2 := fd_mk (P := Try.prog) (s := 48) (i := 2) Try.underlying48 rfl inf4 (by decide)
theorem fv48_2 : Fv Try.prog 48 2 2 := fv_mk (P := Try.prog) (s := 48) (i := 2) Try.underlying48 rfl na4
theorem fd48_3 : Fd Try.prog 48 3 3 := fd_mk (P := Try.prog) (s := 48) (i := 3) Try.underlying48 rfl inf4 (by decide)
theorem fv48_3 : Fv Try.prog 48 3 3 := fv_mk (P := Try.prog) (s := 48) (i := 3) Try.underlying48 rfl na4
theorem fd54_0 : Fd Try.prog 54 0 0 := fd_mk (P := Try.prog) (s := 54) (i := 0) Try.underlying54 rfl inf52 (by decide)
theorem fv54_0 : Fv Try.prog 54 0 0 := fv_mk (P := Try.prog) (s := 54) (i := 0) Try.underlying54 rfl na52
theorem fd54_1 : Fd Try.prog 54 1 1 := fd_mk (P := Try.prog) (s := 54) (i := 1) Try.underlying54 rfl inf22 (by decide)
theorem fv54_1 : Fv Try.prog 54 1 1 := fv_mk (P := Try.prog) (s := 54) (i := 1) Try.underlying54 rfl na22
theorem fd54_2 : Fd Try.prog 54 2 2 := fd_mk (P := Try.prog) (s := 54) (i := 2) Try.underlying54 rfl inf23 (by decide)
theorem fv54_2 : Fv Try.prog 54 2 2 := fv_mk (P := Try.prog) (s := 54) (i := 2) Try.underlying54 rfl na23
theorem fd54_3 : Fd Try.prog 54 3 3 := fd_mk (P := Try.prog) (s := 54) (i := 3) Try.underlying54 rfl inf51 (by decide)
theorem fv54_3 : Fv Try.prog 54 3 3 := fv_mk (P := Try.prog) (s := 54) (i := 3) Try.underlying54 rfl na51
theorem fd54_4 : Fd Try.prog 54 4 4 := fd_mk (P := Try.prog) (s := 54) (i := 4) Try.underlying54 rfl inf53 (by decide)
theorem fv54_4 : Fv Try.prog 54 4 4 := fv_mk (P := Try.prog) (s := 54) (i := 4) Try.underlying54 rfl na53
theorem fd55_0 : Fd Try.prog 55 0 0 := fd_mk (P := Try.prog) (s := 55) (i := 0) Try.underlying55 rfl inf52 (by decide)
theorem fv55_0 : Fv Try.prog 55 0 0 := fv_mk (P := Try.prog) (s := 55) (i := 0) Try.underlying55 rfl na52
theorem fd55_1 : Fd Try.prog 55 1 1 := fd_mk (P := Try.prog) (s := 55) (i := 1) Try.underlying55 rfl inf22 (by decide)
theorem fv55_1 : Fv Try.prog 55 1 1 := fv_mk (P := Try.prog) (s := 55) (i := 1) Try.underlying55 rfl na22
theorem fd55_2 : Fd Try.prog 55 2 2 := fd_mk (P := Try.prog) (s := 55) (i := 2) Try.underlying55 rfl inf23 (by decide)
theorem fv55_2 : Fv Try.prog 55 2 2 := fv_mk (P := Try.prog) (s := 55) (i := 2) Try.underlying55 rfl na23
theorem fd55_3 : Fd Try.prog 55 3 3 := fd_mk (P := Try.prog) (s := 55) (i := 3) Try.underlying55 rfl inf51 (by decide)
theorem fv55_3 : Fv Try.prog 55 3 3 := fv_mk (P := Try.prog) (s := 55) (i := 3) Try.underlying55 rfl na51
theorem fd55_4 : Fd Try.prog 55 4 4 := fd_mk (P := Try.prog) (s := 55) (i := 4) Try.underlying55 rfl inf53 (by decide)
theorem fv55_4 : Fv Try.prog 55 4 4 := fv_mk (P := Try.prog) (s := 55) (i := 4) Try.underlying55 rfl na53
theorem fd89_0 : Fd Try.prog 89 0 0 := fd_mk (P := Try.prog) (s := 89) (i := 0) Try.underlying89 rfl inf3 (by decide)
theorem fv89_0 : Fv Try.prog 89 0 0 := fv_mk (P := Try.prog) (s := 89) (i := 0) Try.underlying89 rfl na3
theorem fd89_1 : Fd Try.prog 89 1 1 := fd_mk (P := Try.prog) (s := 89) (i := 1) Try.underlying89 rfl inf5 (by decide)
theorem fv89_1 : Fv Try.prog 89 1 1 := fv_mk (P := Try.prog) (s := 89) (i := 1) Try.underlying89 rfl na5
theorem fd89_2 : Fd Try.prog 89 2 2 := fd_mk (P := Try.prog) (s := 89) (i := 2) Try.underlying89 rfl inf4 (by decide)
theorem fv89_2 : Fv Try.prog 89 2 2 := fv_mk (P := Try.prog) (s := 89) (i := 2) Try.underlying89 rfl na4
theorem fd89_3 : Fd Try.prog 89 3 3 := fd_mk (P := Try.prog) (s := 89) (i := 3) Try.underlying89 rfl inf88 (by decide)
theorem fs89_3 : Fs Try.prog 89 3 3 256 := fs_mk (P := Try.prog) (s := 89) (i := 3) Try.underlying89 rfl ag88
theorem fd90_0 : Fd Try.prog 90 0 0 := fd_mk (P := Try.prog) (s := 90) (i := 0) Try.underlying90 rfl inf3 (by decide)
theorem fv90_0 : Fv Try.prog 90 0 0 := fv_mk (P := Try.prog) (s := 90) (i := 0) Try.underlying90 rfl na3
theorem fd90_1 : Fd Try.prog 90 1 1 := fd_mk (P := Try.prog) (s := 90) (i := 1) Try.underlying90 rfl inf5 (by decide)
theorem fv90_1 : Fv Try.prog 90 1 1 := fv_mk (P := Try.prog) (s := 90) (i := 1) Try.underlying90 rfl na5
theorem fd90_2 : Fd Try.prog 90 2 2 := fd_mk (P := Try.prog) (s := 90) (i := 2) Try.underlying90 rfl inf4 (by decide)
theorem fv90_2 : Fv Try.prog 90 2 2 := fv_mk (P := Try.prog) (s := 90) (i := 2) Try.underlying90 rfl na4
theorem fd90_3 : Fd Try.prog 90 3 3 := fd_mk (P := Try.prog) (s := 90) (i := 3) Try.underlying90 rfl inf88 (by decide)
theorem fs90_3 : Fs Try.prog 90 3 3 256 := fs_mk (P := Try.prog) (s := 90) (i := 3) Try.underlying90 rfl ag88
theorem fd104_0 : Fd Try.prog 104 0 0 := fd_mk (P := Try.prog) (s := 104) (i := 0) Try.underlying104 rfl inf3 (by decide)
theorem fv104_0 : Fv Try.prog 104 0 0 := fv_mk (P := Try.prog) (s := 104) (i := 0) Try.underlying104 rfl na3
theorem fd104_1 : Fd Try.prog 104 1 1 := fd_mk (P := Try.prog) (s := 104) (i := 1) Try.underlying104 rfl inf5 (by decide)
theorem fv104_1 : Fv Try.prog 104 1 1 := fv_mk (P := Try.prog) (s := 104) (i := 1) Try.underlying104 rfl na5
theorem fd104_2 : Fd Try.prog 104 2 2 := fd_mk (P := Try.prog) (s := 104) (i := 2) Try.underlying104 rfl inf4 (by decide)
theorem fv104_2 : Fv Try.prog 104 2 2 := fv_mk (P := Try.prog) (s := 104) (i := 2) Try.underlying104 rfl na4
theorem fd104_3 : Fd Try.prog 104 3 3 := fd_mk (P := Try.prog) (s := 104) (i := 3) Try.underlying104 rfl inf88 (by decide)
theorem fs104_3 : Fs Try.prog 104 3 3 256 := fs_mk (P := Try.prog) (s := 104) (i := 3) Try.underlying104 rfl ag88
theorem fd105_0 : Fd Try.prog 105 0 0 := fd_mk (P := Try.prog) (s := 105) (i := 0) Try.underlying105 rfl inf3 (by decide)
theorem fv105_0 : Fv Try.prog 105 0 0 := fv_mk (P := Try.prog) (s := 105) (i := 0) Try.underlying105 rfl na3
theorem fd105_1 : Fd Try.prog 105 1 1 := fd_mk (P := Try.prog) (s := 105) (i := 1) Try.underlying105 rfl inf5 (by decide)
theorem fv105_1 : Fv Try.prog 105 1 1 := fv_mk (P := Try.prog) (s := 105) (i := 1) Try.underlying105 rfl na5
theorem fd105_2 : Fd Try.prog 105 2 2 := fd_mk (P := Try.prog) (s := 105) (i := 2) Try.underlying105 rfl inf4 (by decide)
theorem fv105_2 : Fv Try.prog 105 2 2 := fv_mk (P := Try.prog) (s := 105) (i := 2) Try.underlying105 rfl na4
theorem fd105_3 : Fd Try.prog 105 3 3 := fd_mk (P := Try.prog) (s := 105) (i := 3) Try.underlying105 rfl inf88 (by decide)
theorem fs105_3 : Fs Try.prog 105 3 3 256 := fs_mk (P := Try.prog) (s := 105) (i := 3) Try.underlying105 rfl ag88
theorem fd113_0 : Fd Try.prog 113 0 0 := fd_mk (P := Try.prog) (s := 113) (i := 0) Try.underlying113 rfl inf17 (by decide)
theorem fv113_0 : Fv Try.prog 113 0 0 := fv_mk (P := Try.prog) (s := 113) (i := 0) Try.underlying113 rfl na17
theorem fd113_1 : Fd Try.prog 113 1 1 := fd_mk (P := Try.prog) (s := 113) (i := 1) Try.underlying113 rfl inf17 (by decide)
theorem fv113_1 : Fv Try.prog 113 1 1 := fv_mk (P := Try.prog) (s := 113) (i := 1) Try.underlying113 rfl na17
theorem fd113_2 : Fd Try.prog 113 2 2 := fd_mk (P := Try.prog) (s := 113) (i := 2) Try.underlying113 rfl inf17 (by decide)
theorem fv113_2 : Fv Try.prog 113 2 2 := fv_mk (P := Try.prog) (s := 113) (i := 2) Try.underlying113 rfl na17
theorem fd113_3 : Fd Try.prog 113 3 3 := fd_mk (P := Try.prog) (s := 113) (i := 3) Try.underlying113 rfl inf9 (by decide)
theorem fv113_3 : Fv Try.prog 113 3 3 := fv_mk (P := Try.prog) (s := 113) (i := 3) Try.underlying113 rfl na9
theorem fd114_0 : Fd Try.prog 114 0 0 := fd_mk (P := Try.prog) (s := 114) (i := 0) Try.underlying114 rfl inf17 (by decide)
theorem fv114_0 : Fv Try.prog 114 0 0 := fv_mk (P := Try.prog) (s := 114) (i := 0) Try.underlying114 rfl na17
theorem fd114_1 : Fd Try.prog 114 1 1 := fd_mk (P := Try.prog) (s := 114) (i := 1) Try.underlying114 rfl inf17 (by decide)
theorem fv114_1 : Fv Try.prog 114 1 1 := fv_mk (P := Try.prog) (s := 114) (i := 1) Try.underlying114 rfl na17
theorem fd114_2 : Fd Try.prog 114 2 2 := fd_mk (P := Try.prog) (s := 114) (i := 2) Try.underlying114 rfl inf17 (by decide)
theorem fv114_2 : Fv Try.prog 114 2 2 := fv_mk (P := Try.prog) (s := 114) (i := 2) Try.underlying114 rfl na17
theorem fd114_3 : Fd Try.prog 114 3 3 := fd_mk (P := Try.prog) (s := 114) (i := 3) Try.underlying114 rfl inf9 (by decide)
theorem fv114_3 : Fv Try.prog 114 3 3 := fv_mk (P := Try.prog) (s := 114) (i := 3) Try.underlying114 rfl na9
theorem fd125_0 : Fd Try.prog 125 0 0 := fd_mk (P := Try.prog) (s := 125) (i := 0) Try.underlying125 rfl inf12 (by decide)
theorem fv125_0 : Fv Try.prog 125 0 0 := fv_mk (P := Try.prog) (s := 125) (i := 0) Try.underlying125 rfl na12
theorem fd125_1 : Fd Try.prog 125 1 1 := fd_mk (P := Try.prog) (s := 125) (i := 1) Try.underlying125 rfl inf12 (by decide)
theorem fv125_1 : Fv Try.prog 125 1 1 := fv_mk (P := Try.prog) (s := 125) (i := 1) Try.underlying125 rfl na12
theorem fd125_2 : Fd Try.prog 125 2 2 := fd_mk (P := Try.prog) (s := 125) (i := 2) Try.underlying125 rfl inf107 (by decide)
theorem fv125_2 : Fv Try.prog 125 2 2 := fv_mk (P := Try.prog) (s := 125) (i := 2) Try.underlying125 rfl na107
theorem fd125_3 : Fd Try.prog 125 3 3 := fd_mk (P := Try.prog) (s := 125) (i := 3) Try.underlying125 rfl inf119 (by decide)
theorem fv125_3 : Fv Try.prog 125 3 3 := fv_mk (P := Try.prog) (s := 125) (i := 3) Try.underlying125 rfl na119
theorem fd125_4 : Fd Try.prog 125 4 4 := fd_mk (P := Try.prog) (s := 125) (i := 4) Try.underlying125 rfl inf5 (by decide)
theorem fv125_4 : Fv Try.prog 125 4 4 := fv_mk (P := Try.prog) (s := 125) (i := 4) Try.underlying125 rfl na5
theorem fd125_5 : Fd Try.prog 125 5 5 := fd_mk (P := Try.prog) (s := 125) (i := 5) Try.underlying125 rfl inf5 (by decide)
theorem fv125_5 : Fv Try.prog 125 5 5 := fv_mk (P := Try.prog) (s := 125) (i := 5) Try.underlying125 rfl na5
theorem fd125_6 : Fd Try.prog 125 6 6 := fd_mk (P := Try.prog) (s := 125) (i := 6) Try.underlying125 rfl inf120 (by decide)
theorem fv125_6 : Fv Try.prog 125 6 6 := fv_mk (P := Try.prog) (s := 125) (i := 6) Try.underlying125 rfl na120
theorem fd125_7 : Fd Try.prog 125 7 7 := fd_mk (P := Try.prog) (s := 125) (i := 7) Try.underlying125 rfl inf121 (by decide)
theorem fv125_7 : Fv Try.prog 125 7 7 := fv_mk (P := Try.prog) (s := 125) (i := 7) Try.underlying125 rfl na121
theorem fd125_8 : Fd Try.prog 125 8 8 := fd_mk (P := Try.prog) (s := 125) (i := 8) Try.underlying125 rfl inf122 (by decide)
theorem fv125_8 : Fv Try.prog 125 8 8 := fv_mk (P := Try.prog) (s := 125) (i := 8) Try.underlying125 rfl na122
theorem fd125_9 : Fd Try.prog 125 9 9 := fd_mk (P := Try.prog) (s := 125) (i := 9) Try.underlying125 rfl inf123 (by decide)
theorem fv125_9 : Fv Try.prog 125 9 9 := fv_mk (P := Try.prog) (s := 125) (i := 9) Try.underlying125 rfl na123
theorem fd125_10 : Fd Try.prog 125 10 10 := fd_mk (P := Try.prog) (s := 125) (i := 10) Try.underlying125 rfl inf124 (by decide)
theorem fv125_10 : Fv Try.prog 125 10 10 := fv_mk (P := Try.prog) (s := 125) (i := 10) Try.underlying125 rfl na124
theorem fd126_0 : Fd Try.prog 126 0 0 := fd_mk (P := Try.prog) (s := 126) (i := 0) Try.underlying126 rfl inf12 (by decide)
theorem fv126_0 : Fv Try.prog 126 0 0 := fv_mk (P := Try.prog) (s := 126) (i := 0) Try.underlying126 rfl na12
theorem fd126_1 : Fd Try.prog 126 1 1 := fd_mk (P := Try.prog) (s := 126) (i := 1) Try.underlying126 rfl inf12 (by decide)
theorem fv126_1 : Fv Try.prog 126 1 1 := fv_mk (P := Try.prog) (s := 126) (i := 1) Try.underlying126 rfl na12
theorem fd126_2 : Fd Try.prog 126 2 2 := fd_mk (P := Try.prog) (s := 126) (i := 2) Try.underlying126 rfl inf107 (by decide)
theorem fv126_2 : Fv Try.prog 126 2 2 := fv_mk (P := Try.prog) (s := 126) (i := 2) Try.underlying126 rfl na107
theorem fd126_3 : Fd Try.prog 126 3 3 := fd_mk (P := Try.prog) (s := 126) (i := 3) Try.underlying126 rfl inf119 (by decide)
theorem fv126_3 : Fv Try.prog 126 3 3 := fv_mk (P := Try.prog) (s := 126) (i := 3) Try.underlying126 rfl na119
theorem fd126_4 : Fd Try.prog 126 4 4 := fd_mk (P := Try.prog) (s := 126) (i := 4) Try.underlying126 rfl inf5 (by decide)
theorem fv126_4 : Fv Try.prog 126 4 4 := fv_mk (P := Try.prog) (s := 126) (i := 4) Try.underlying126 rfl na5
theorem fd126_5 : Fd Try.prog 126 5 5 := fd_mk (P := Try.prog) (s := 126) (i := 5) Try.underlying126 rfl inf5 (by decide)
theorem fv126_5 : Fv Try.prog 126 5 5 := fv_mk (P := Try.prog) (s := 126) (i := 5) Try.underlying126 rfl na5
theorem fd126_6 : Fd Try.prog 126 6 6 := fd_mk (P := Try.prog) (s := 126) (i := 6) Try.underlying126 rfl inf120 (by decide)
theorem fv126_6 : Fv Try.prog 126 6 6 := fv_mk (P := Try.prog) (s := 126) (i := 6) Try.underlying126 rfl na120
theorem fd126_7 : Fd Try.prog 126 7 7 := fd_mk (P := Try.prog) (s := 126) (i := 7) Try.underlying126 rfl inf121 (by decide)
theorem fv126_7 : Fv Try.prog 126 7 7 := fv_mk (P := Try.prog) (s := 126) (i := 7) Try.underlying126 rfl na121
theorem fd126_8 : Fd Try.prog 126 8 8 := fd_mk (P := Try.prog) (s := 126) (i := 8) Try.underlying126 rfl inf122 (by decide)
theorem fv126_8 : Fv Try.prog 126 8 8 := fv_mk (P := Try.prog) (s := 126) (i := 8) Try.underlying126 rfl na122
theorem fd126_9 : Fd Try.prog 126 9 9 := fd_mk (P := Try.prog) (s := 126) (i := 9) Try.underlying126 rfl inf123 (by decide)
theorem fv126_9 : Fv Try.prog 126 9 9 := fv_mk (P := Try.prog) (s := 126) (i := 9) Try.underlying126 rfl na123
theorem fd126_10 : Fd Try.prog 126 10 10 := fd_mk (P := Try.prog) (s := 126) (i := 10) Try.underlying126 rfl inf124 (by decide)
theorem fv126_10 : Fv Try.prog 126 10 10 := fv_mk (P := Try.prog) (s := 126) (i := 10) Try.underlying126 rfl na124
attribute [instance] fd7_0 fv7_0 fd7_1 fv7_1 fd7_2 fv7_2 fd7_3 fv7_3 fd8_0 fv8_0 fd8_1 fv8_1 fd8_2 fv8_2 fd8_3 fv8_3 fd13_0 fv13_0 fd13_1 fv13_1 fd14_0 fv14_0 fd14_1 fv14_1 fd18_0 fv18_0 fd19_0 fv19_0 fd24_0 fv24_0 fd24_1 fv24_1 fd24_2 fv24_2 fd24_3 fv24_3 fd24_4 fv24_4 fd24_5 fv24_5 fd24_6 fv24_6 fd24_7 fv24_7 fd24_8 fv24_8 fd24_9 fv24_9 fd24_10 fv24_10 fd24_11 fv24_11 fd24_12 fv24_12 fd24_13 fv24_13 fd24_14 fv24_14 fd24_15 fv24_15 fd24_16 fv24_16 fd24_17 fv24_17 fd24_18 fv24_18 fd24_19 fv24_19 fd24_20 fv24_20 fd25_0 fv25_0 fd25_1 fv25_1 fd25_2 fv25_2 fd25_3 fv25_3 fd25_4 fv25_4 fd25_5 fv25_5 fd25_6 fv25_6 fd25_7 fv25_7 fd25_8 fv25_8 fd25_9 fv25_9 fd25_10 fv25_10 fd25_11 fv25_11 fd25_12 fv25_12 fd25_13 fv25_13 fd25_14 fv25_14 fd25_15 fv25_15 fd25_16 fv25_16 fd25_17 fv25_17 fd25_18 fv25_18 fd25_19 fv25_19 fd25_20 fv25_20 fd34_0 fv34_0 fd34_1 fv34_1 fd34_2 fv34_2 fd34_3 fv34_3 fd34_4 fv34_4 fd35_0 fv35_0 fd35_1 fv35_1 fd35_2 fv35_2 fd35_3 fv35_3 fd35_4 fv35_4 fd36_0 fv36_0 fd36_1 fv36_1 fd36_2 fv36_2 fd36_3 fs36_3 fd36_4 fv36_4 fd36_5 fv36_5 fd36_6 fv36_6 fd37_0 fv37_0 fd37_1 fv37_1 fd37_2 fv37_2 fd37_3 fs37_3 fd37_4 fv37_4 fd37_5 fv37_5 fd37_6 fv37_6 fd47_0 fv47_0 fd47_1 fv47_1 fd47_2 fv47_2 fd47_3 fv47_3 fd48_0 fv48_0 fd48_1 fv48_1 fd48_2 fv48_2 fd48_3 fv48_3 fd54_0 fv54_0 fd54_1 fv54_1 fd54_2 fv54_2 fd54_3 fv54_3 fd54_4 fv54_4 fd55_0 fv55_0 fd55_1 fv55_1 fd55_2 fv55_2 fd55_3 fv55_3 fd55_4 fv55_4 fd89_0 fv89_0 fd89_1 fv89_1 fd89_2 fv89_2 fd89_3 fs89_3 fd90_0 fv90_0 fd90_1 fv90_1 fd90_2 fv90_2 fd90_3 fs90_3 fd104_0 fv104_0 fd104_1 fv104_1 fd104_2 fv104_2 fd104_3 fs104_3 fd105_0 fv105_0 fd105_1 fv105_1 fd105_2 fv105_2 fd105_3 fs105_3 fd113_0 fv113_0 fd113_1 fv113_1 fd113_2 fv113_2 fd113_3 fv113_3 fd114_0 fv114_0 fd114_1 fv114_1 fd114_2 fv114_2 fd114_3 fv114_3 fd125_0 fv125_0 fd125_1 fv125_1 fd125_2 fv125_2 fd125_3 fv125_3 fd125_4 fv125_4 fd125_5 fv125_5 fd125_6 fv125_6 fd125_7 fv125_7 fd125_8 fv125_8 fd125_9 fv125_9 fd125_10 fv125_10 fd126_0 fv126_0 fd126_1 fv126_1 fd126_2 fv126_2 fd126_3 fv126_3 fd126_4 fv126_4 fd126_5 fv126_5 fd126_6 fv126_6 fd126_7 fv126_7 fd126_8 fv126_8 fd126_9 fv126_9 fd126_10 fv126_10
end Tab
theorem cl2 : CallIn Try.prog 2 := Try.call2
theorem cl3 : CallIn Try.prog 3 := Try.call3
theorem cl4 : CallIn Try.prog 4 := Try.call4
theorem cl5 : CallIn Try.prog 5 := Try.call5
theorem cl6 : CallIn Try.prog 6 := Try.call6
theorem cl7 : CallIn Try.prog 7 := Try.call7
theorem cl8 : CallIn Try.prog 8 := Try.call8
theorem cl9 : CallIn Try.prog 9 := Try.call9
theorem cl10 : CallIn Try.prog 10 := Try.call10
theorem cl11 : CallIn Try.prog 11 := Try.call11
theorem cl12 : CallIn Try.prog 12 := Try.call12
theorem cl13 : CallIn Try.prog 13 := Try.call13
theorem cl14 : CallIn Try.prog 14 := Try.call14
theorem cl15 : CallIn Try.prog 15 := Try.call15
theorem cl16 : CallIn Try.prog 16 := Try.call16
theorem cl17 : CallIn Try.prog 17 := Try.call17
theorem cl18 : CallIn Try.prog 18 := Try.call18
theorem cl19 : CallIn Try.prog 19 := Try.call19
theorem cl20 : CallIn Try.prog 20 := Try.call20
theorem cl21 : CallIn Try.prog 21 := Try.call21
theorem cl22 : CallIn Try.prog 22 := Try.call22
theorem cl23 : CallIn Try.prog 23 := Try.call23
theorem cl24 : CallIn Try.prog 24 := Try.call24
theorem cl25 : CallIn Try.prog 25 := Try.call25
theorem cl26 : CallIn Try.prog 26 := Try.call26
theorem cl27 : CallIn Try.prog 27 := Try.call27
theorem cl28 : CallIn Try.prog 28 := Try.call28
theorem cl29 : CallIn Try.prog 29 := Try.call29
theorem cl30 : CallIn Try.prog 30 := Try.call30
theorem cl31 : CallIn Try.prog 31 := Try.call31
theorem cl32 : CallIn Try.prog 32 := Try.call32
theorem cl33 : CallIn Try.prog 33 := Try.call33
theorem cl34 : CallIn Try.prog 34 := Try.call34
theorem cl35 : CallIn Try.prog 35 := Try.call35
theorem cl36 : CallIn Try.prog 36 := Try.call36
theorem cl37 : CallIn Try.prog 37 := Try.call37
theorem cl38 : CallIn Try.prog 38 := Try.call38
theorem cl39 : CallIn Try.prog 39 := Try.call39
theorem cl40 : CallIn Try.prog 40 := Try.call40
theorem cl41 : CallIn Try.prog 41 := Try.call41
theorem cl42 : CallIn Try.prog 42 := Try.call42
theorem cl43 : CallIn Try.prog 43 := Try.call43
theorem cl44 : CallIn Try.prog 44 := Try.call44
theorem cl45 : CallIn Try.prog 45 := Try.call45
theorem cl46 : CallIn Try.prog 46 := Try.call46
theorem cl47 : CallIn Try.prog 47 := Try.call47
theorem cl48 : CallIn Try.prog 48 := Try.call48
theorem cl49 : CallIn Try.prog 49 := Try.call49
theorem cl50 : CallIn Try.prog 50 := Try.call50
theorem cl51 : CallIn Try.prog 51 := Try.call51
theorem cl52 : CallIn Try.prog 52 := Try.call52
theorem cl53 : CallIn Try.prog 53 := Try.call53
theorem cl54 : CallIn Try.prog 54 := Try.call54
theorem cl55 : CallIn Try.prog 55 := Try.call55
theorem cl56 : CallIn Try.prog 56 := Try.call56
theorem cl57 : CallIn Try.prog 57 := Try.call57
theorem cl58 : CallIn Try.prog 58 := Try.call58
theorem cl59 : CallIn Try.prog 59 := Try.call59
theorem cl60 : CallIn Try.prog 60 := Try.call60
theorem cl61 : CallIn Try.prog 61 := Try.call61
theorem cl62 : CallIn Try.prog 62 := Try.call62
theorem cl63 : CallIn Try.prog 63 := Try.call63
theorem cl64 : CallIn Try.prog 64 := Try.call64
theorem cl65 : CallIn Try.prog 65 := Try.call65
theorem cl66 : CallIn Try.prog 66 := Try.call66
theorem cl67 : CallIn Try.prog 67 := Try.call67
theorem cl68 : CallIn Try.prog 68 := Try.call68
theorem cl69 : CallIn Try.prog 69 := Try.call69
theorem cl70 : CallIn Try.prog 70 := Try.call70
theorem cl71 : CallIn Try.prog 71 := Try.call71
theorem cl72 : CallIn Try.prog 72 := Try.call72
theorem cl73 : CallIn Try.prog 73 := Try.call73
theorem cl74 : CallIn Try.prog 74 := Try.call74
theorem cl76 : CallIn Try.prog 76 := Try.call76
theorem cl77 : CallIn Try.prog 77 := Try.call77
theorem cl78 : CallIn Try.prog 78 := Try.call78
theorem cl79 : CallIn Try.prog 79 := Try.call79
theorem cl80 : CallIn Try.prog 80 := Try.call80
theorem cl81 : CallIn Try.prog 81 := Try.call81
theorem cl83 : CallIn Try.prog 83 := Try.call83
theorem cl84 : CallIn Try.prog 84 := Try.call84
theorem cl85 : CallIn Try.prog 85 := Try.call85
theorem cl86 : CallIn Try.prog 86 := Try.call86
theorem cl87 : CallIn Try.prog 87 := Try.call87
theorem cl88 : CallIn Try.prog 88 := Try.call88
theorem cl89 : CallIn Try.prog 89 := Try.call89
theorem cl90 : CallIn Try.prog 90 := Try.call90
theorem cl91 : CallIn Try.prog 91 := Try.call91
theorem mixed : Try.prog.follows .mixedOrders = true := by kernel_rfl
end Go.Proofs.Ytjcbnohnilffoaa
