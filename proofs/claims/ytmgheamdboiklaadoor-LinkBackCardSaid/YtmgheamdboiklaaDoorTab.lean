/- MADE BY tab.py (a program of this session's): the closed facts on the program's types and functions, as instances. -/
import Derived.Test.YtmgheamdboiklaaDoorOps
import Derived.Test.YtmgheamdboiklaaDoorProg
set_option linter.unusedVariables false
namespace Go.Proofs.YtmgheamdboiklaaDoor
namespace Tab
variable {P : Program}
theorem inf_mk {t : TypeId} {i : TypeInfo} {sz by_ : Nat} {z : Value} (hi : P.info? t = some i) (hs : i.size = sz) (hb : i.bytes = by_) (hz : i.zero = some z) (hzs : z.cells.size = sz) : Inf P t sz by_ z := ⟨⟨i, hi, hs, hb, hz⟩, hzs⟩
abbrev u1 := U.mk (P := Tryd.prog) (t := 1) Tryd.underlying1
abbrev na1 := Na.mk (P := Tryd.prog) (t := 1) Tryd.isAgg1
abbrev inf1 := inf_mk (P := Tryd.prog) (t := 1) (sz := 1) (by_ := 8) (by kernel_rfl : Tryd.prog.info? 1 = some Tryd.t1) rfl rfl rfl (by kernel_rfl)
abbrev u2 := U.mk (P := Tryd.prog) (t := 2) Tryd.underlying2
abbrev na2 := Na.mk (P := Tryd.prog) (t := 2) Tryd.isAgg2
abbrev inf2 := inf_mk (P := Tryd.prog) (t := 2) (sz := 1) (by_ := 8) (by kernel_rfl : Tryd.prog.info? 2 = some Tryd.t2) rfl rfl rfl (by kernel_rfl)
abbrev u3 := U.mk (P := Tryd.prog) (t := 3) Tryd.underlying3
abbrev na3 := Na.mk (P := Tryd.prog) (t := 3) Tryd.isAgg3
abbrev inf3 := inf_mk (P := Tryd.prog) (t := 3) (sz := 1) (by_ := 8) (by kernel_rfl : Tryd.prog.info? 3 = some Tryd.t3) rfl rfl rfl (by kernel_rfl)
abbrev u4 := U.mk (P := Tryd.prog) (t := 4) Tryd.underlying4
abbrev na4 := Na.mk (P := Tryd.prog) (t := 4) Tryd.isAgg4
abbrev inf4 := inf_mk (P := Tryd.prog) (t := 4) (sz := 1) (by_ := 1) (by kernel_rfl : Tryd.prog.info? 4 = some Tryd.t4) rfl rfl rfl (by kernel_rfl)
abbrev u5 := U.mk (P := Tryd.prog) (t := 5) Tryd.underlying5
abbrev na5 := Na.mk (P := Tryd.prog) (t := 5) Tryd.isAgg5
abbrev inf5 := inf_mk (P := Tryd.prog) (t := 5) (sz := 1) (by_ := 1) (by kernel_rfl : Tryd.prog.info? 5 = some Tryd.t5) rfl rfl rfl (by kernel_rfl)
abbrev u6 := U.mk (P := Tryd.prog) (t := 6) Tryd.underlying6
abbrev na6 := Na.mk (P := Tryd.prog) (t := 6) Tryd.isAgg6
abbrev inf6 := inf_mk (P := Tryd.prog) (t := 6) (sz := 1) (by_ := 1) (by kernel_rfl : Tryd.prog.info? 6 = some Tryd.t6) rfl rfl rfl (by kernel_rfl)
abbrev u7 := U.mk (P := Tryd.prog) (t := 7) Tryd.underlying7
abbrev ag7 := Ag.mk (P := Tryd.prog) (t := 7) (sz := 4) Tryd.isAgg7 Tryd.sizeOf7
abbrev inf7 := inf_mk (P := Tryd.prog) (t := 7) (sz := 4) (by_ := 24) (by kernel_rfl : Tryd.prog.info? 7 = some Tryd.t7) rfl rfl rfl (by kernel_rfl)
abbrev u8 := U.mk (P := Tryd.prog) (t := 8) Tryd.underlying8
abbrev ag8 := Ag.mk (P := Tryd.prog) (t := 8) (sz := 4) Tryd.isAgg8 Tryd.sizeOf8
abbrev inf8 := inf_mk (P := Tryd.prog) (t := 8) (sz := 4) (by_ := 24) (by kernel_rfl : Tryd.prog.info? 8 = some Tryd.t8) rfl rfl rfl (by kernel_rfl)
abbrev u9 := U.mk (P := Tryd.prog) (t := 9) Tryd.underlying9
abbrev na9 := Na.mk (P := Tryd.prog) (t := 9) Tryd.isAgg9
abbrev inf9 := inf_mk (P := Tryd.prog) (t := 9) (sz := 1) (by_ := 16) (by kernel_rfl : Tryd.prog.info? 9 = some Tryd.t9) rfl rfl rfl (by kernel_rfl)
abbrev u10 := U.mk (P := Tryd.prog) (t := 10) Tryd.underlying10
abbrev na10 := Na.mk (P := Tryd.prog) (t := 10) Tryd.isAgg10
abbrev inf10 := inf_mk (P := Tryd.prog) (t := 10) (sz := 1) (by_ := 16) (by kernel_rfl : Tryd.prog.info? 10 = some Tryd.t10) rfl rfl rfl (by kernel_rfl)
abbrev u11 := U.mk (P := Tryd.prog) (t := 11) Tryd.underlying11
abbrev na11 := Na.mk (P := Tryd.prog) (t := 11) Tryd.isAgg11
abbrev inf11 := inf_mk (P := Tryd.prog) (t := 11) (sz := 1) (by_ := 16) (by kernel_rfl : Tryd.prog.info? 11 = some Tryd.t11) rfl rfl rfl (by kernel_rfl)
abbrev u12 := U.mk (P := Tryd.prog) (t := 12) Tryd.underlying12
abbrev na12 := Na.mk (P := Tryd.prog) (t := 12) Tryd.isAgg12
abbrev inf12 := inf_mk (P := Tryd.prog) (t := 12) (sz := 1) (by_ := 8) (by kernel_rfl : Tryd.prog.info? 12 = some Tryd.t12) rfl rfl rfl (by kernel_rfl)
abbrev u13 := U.mk (P := Tryd.prog) (t := 13) Tryd.underlying13
abbrev ag13 := Ag.mk (P := Tryd.prog) (t := 13) (sz := 2) Tryd.isAgg13 Tryd.sizeOf13
abbrev inf13 := inf_mk (P := Tryd.prog) (t := 13) (sz := 2) (by_ := 24) (by kernel_rfl : Tryd.prog.info? 13 = some Tryd.t13) rfl rfl rfl (by kernel_rfl)
abbrev u14 := U.mk (P := Tryd.prog) (t := 14) Tryd.underlying14
abbrev ag14 := Ag.mk (P := Tryd.prog) (t := 14) (sz := 2) Tryd.isAgg14 Tryd.sizeOf14
abbrev inf14 := inf_mk (P := Tryd.prog) (t := 14) (sz := 2) (by_ := 24) (by kernel_rfl : Tryd.prog.info? 14 = some Tryd.t14) rfl rfl rfl (by kernel_rfl)
abbrev u15 := U.mk (P := Tryd.prog) (t := 15) Tryd.underlying15
abbrev na15 := Na.mk (P := Tryd.prog) (t := 15) Tryd.isAgg15
abbrev inf15 := inf_mk (P := Tryd.prog) (t := 15) (sz := 1) (by_ := 8) (by kernel_rfl : Tryd.prog.info? 15 = some Tryd.t15) rfl rfl rfl (by kernel_rfl)
abbrev u16 := U.mk (P := Tryd.prog) (t := 16) Tryd.underlying16
abbrev na16 := Na.mk (P := Tryd.prog) (t := 16) Tryd.isAgg16
abbrev inf16 := inf_mk (P := Tryd.prog) (t := 16) (sz := 1) (by_ := 8) (by kernel_rfl : Tryd.prog.info? 16 = some Tryd.t16) rfl rfl rfl (by kernel_rfl)
abbrev u17 := U.mk (P := Tryd.prog) (t := 17) Tryd.underlying17
abbrev na17 := Na.mk (P := Tryd.prog) (t := 17) Tryd.isAgg17
abbrev inf17 := inf_mk (P := Tryd.prog) (t := 17) (sz := 1) (by_ := 8) (by kernel_rfl : Tryd.prog.info? 17 = some Tryd.t17) rfl rfl rfl (by kernel_rfl)
abbrev u18 := U.mk (P := Tryd.prog) (t := 18) Tryd.underlying18
abbrev ag18 := Ag.mk (P := Tryd.prog) (t := 18) (sz := 1) Tryd.isAgg18 Tryd.sizeOf18
abbrev inf18 := inf_mk (P := Tryd.prog) (t := 18) (sz := 1) (by_ := 8) (by kernel_rfl : Tryd.prog.info? 18 = some Tryd.t18) rfl rfl rfl (by kernel_rfl)
abbrev u19 := U.mk (P := Tryd.prog) (t := 19) Tryd.underlying19
abbrev ag19 := Ag.mk (P := Tryd.prog) (t := 19) (sz := 1) Tryd.isAgg19 Tryd.sizeOf19
abbrev inf19 := inf_mk (P := Tryd.prog) (t := 19) (sz := 1) (by_ := 8) (by kernel_rfl : Tryd.prog.info? 19 = some Tryd.t19) rfl rfl rfl (by kernel_rfl)
abbrev u20 := U.mk (P := Tryd.prog) (t := 20) Tryd.underlying20
abbrev na20 := Na.mk (P := Tryd.prog) (t := 20) Tryd.isAgg20
abbrev inf20 := inf_mk (P := Tryd.prog) (t := 20) (sz := 1) (by_ := 16) (by kernel_rfl : Tryd.prog.info? 20 = some Tryd.t20) rfl rfl rfl (by kernel_rfl)
abbrev u21 := U.mk (P := Tryd.prog) (t := 21) Tryd.underlying21
abbrev na21 := Na.mk (P := Tryd.prog) (t := 21) Tryd.isAgg21
abbrev inf21 := inf_mk (P := Tryd.prog) (t := 21) (sz := 1) (by_ := 4) (by kernel_rfl : Tryd.prog.info? 21 = some Tryd.t21) rfl rfl rfl (by kernel_rfl)
abbrev u22 := U.mk (P := Tryd.prog) (t := 22) Tryd.underlying22
abbrev na22 := Na.mk (P := Tryd.prog) (t := 22) Tryd.isAgg22
abbrev inf22 := inf_mk (P := Tryd.prog) (t := 22) (sz := 1) (by_ := 8) (by kernel_rfl : Tryd.prog.info? 22 = some Tryd.t22) rfl rfl rfl (by kernel_rfl)
abbrev u24 := U.mk (P := Tryd.prog) (t := 24) Tryd.underlying24
abbrev na24 := Na.mk (P := Tryd.prog) (t := 24) Tryd.isAgg24
abbrev inf24 := inf_mk (P := Tryd.prog) (t := 24) (sz := 1) (by_ := 8) (by kernel_rfl : Tryd.prog.info? 24 = some Tryd.t24) rfl rfl rfl (by kernel_rfl)
abbrev u25 := U.mk (P := Tryd.prog) (t := 25) Tryd.underlying25
abbrev na25 := Na.mk (P := Tryd.prog) (t := 25) Tryd.isAgg25
abbrev inf25 := inf_mk (P := Tryd.prog) (t := 25) (sz := 1) (by_ := 8) (by kernel_rfl : Tryd.prog.info? 25 = some Tryd.t25) rfl rfl rfl (by kernel_rfl)
abbrev u26 := U.mk (P := Tryd.prog) (t := 26) Tryd.underlying26
abbrev na26 := Na.mk (P := Tryd.prog) (t := 26) Tryd.isAgg26
abbrev inf26 := inf_mk (P := Tryd.prog) (t := 26) (sz := 1) (by_ := 8) (by kernel_rfl : Tryd.prog.info? 26 = some Tryd.t26) rfl rfl rfl (by kernel_rfl)
abbrev u27 := U.mk (P := Tryd.prog) (t := 27) Tryd.underlying27
abbrev na27 := Na.mk (P := Tryd.prog) (t := 27) Tryd.isAgg27
abbrev inf27 := inf_mk (P := Tryd.prog) (t := 27) (sz := 1) (by_ := 24) (by kernel_rfl : Tryd.prog.info? 27 = some Tryd.t27) rfl rfl rfl (by kernel_rfl)
abbrev u28 := U.mk (P := Tryd.prog) (t := 28) Tryd.underlying28
abbrev na28 := Na.mk (P := Tryd.prog) (t := 28) Tryd.isAgg28
abbrev inf28 := inf_mk (P := Tryd.prog) (t := 28) (sz := 1) (by_ := 8) (by kernel_rfl : Tryd.prog.info? 28 = some Tryd.t28) rfl rfl rfl (by kernel_rfl)
abbrev u29 := U.mk (P := Tryd.prog) (t := 29) Tryd.underlying29
abbrev na29 := Na.mk (P := Tryd.prog) (t := 29) Tryd.isAgg29
abbrev inf29 := inf_mk (P := Tryd.prog) (t := 29) (sz := 1) (by_ := 8) (by kernel_rfl : Tryd.prog.info? 29 = some Tryd.t29) rfl rfl rfl (by kernel_rfl)
abbrev u30 := U.mk (P := Tryd.prog) (t := 30) Tryd.underlying30
abbrev na30 := Na.mk (P := Tryd.prog) (t := 30) Tryd.isAgg30
abbrev inf30 := inf_mk (P := Tryd.prog) (t := 30) (sz := 1) (by_ := 8) (by kernel_rfl : Tryd.prog.info? 30 = some Tryd.t30) rfl rfl rfl (by kernel_rfl)
abbrev u31 := U.mk (P := Tryd.prog) (t := 31) Tryd.underlying31
abbrev na31 := Na.mk (P := Tryd.prog) (t := 31) Tryd.isAgg31
abbrev inf31 := inf_mk (P := Tryd.prog) (t := 31) (sz := 1) (by_ := 8) (by kernel_rfl : Tryd.prog.info? 31 = some Tryd.t31) rfl rfl rfl (by kernel_rfl)
abbrev u32 := U.mk (P := Tryd.prog) (t := 32) Tryd.underlying32
abbrev na32 := Na.mk (P := Tryd.prog) (t := 32) Tryd.isAgg32
abbrev inf32 := inf_mk (P := Tryd.prog) (t := 32) (sz := 1) (by_ := 8) (by kernel_rfl : Tryd.prog.info? 32 = some Tryd.t32) rfl rfl rfl (by kernel_rfl)
abbrev u34 := U.mk (P := Tryd.prog) (t := 34) Tryd.underlying34
abbrev na34 := Na.mk (P := Tryd.prog) (t := 34) Tryd.isAgg34
abbrev inf34 := inf_mk (P := Tryd.prog) (t := 34) (sz := 1) (by_ := 8) (by kernel_rfl : Tryd.prog.info? 34 = some Tryd.t34) rfl rfl rfl (by kernel_rfl)
abbrev u35 := U.mk (P := Tryd.prog) (t := 35) Tryd.underlying35
abbrev ag35 := Ag.mk (P := Tryd.prog) (t := 35) (sz := 5) Tryd.isAgg35 Tryd.sizeOf35
abbrev inf35 := inf_mk (P := Tryd.prog) (t := 35) (sz := 5) (by_ := 40) (by kernel_rfl : Tryd.prog.info? 35 = some Tryd.t35) rfl rfl rfl (by kernel_rfl)
abbrev u36 := U.mk (P := Tryd.prog) (t := 36) Tryd.underlying36
abbrev ag36 := Ag.mk (P := Tryd.prog) (t := 36) (sz := 5) Tryd.isAgg36 Tryd.sizeOf36
abbrev inf36 := inf_mk (P := Tryd.prog) (t := 36) (sz := 5) (by_ := 40) (by kernel_rfl : Tryd.prog.info? 36 = some Tryd.t36) rfl rfl rfl (by kernel_rfl)
abbrev u37 := U.mk (P := Tryd.prog) (t := 37) Tryd.underlying37
abbrev ag37 := Ag.mk (P := Tryd.prog) (t := 37) (sz := 10) Tryd.isAgg37 Tryd.sizeOf37
abbrev inf37 := inf_mk (P := Tryd.prog) (t := 37) (sz := 10) (by_ := 88) (by kernel_rfl : Tryd.prog.info? 37 = some Tryd.t37) rfl rfl rfl (by kernel_rfl)
abbrev u38 := U.mk (P := Tryd.prog) (t := 38) Tryd.underlying38
abbrev ag38 := Ag.mk (P := Tryd.prog) (t := 38) (sz := 10) Tryd.isAgg38 Tryd.sizeOf38
abbrev inf38 := inf_mk (P := Tryd.prog) (t := 38) (sz := 10) (by_ := 88) (by kernel_rfl : Tryd.prog.info? 38 = some Tryd.t38) rfl rfl rfl (by kernel_rfl)
abbrev u40 := U.mk (P := Tryd.prog) (t := 40) Tryd.underlying40
abbrev na40 := Na.mk (P := Tryd.prog) (t := 40) Tryd.isAgg40
abbrev inf40 := inf_mk (P := Tryd.prog) (t := 40) (sz := 1) (by_ := 8) (by kernel_rfl : Tryd.prog.info? 40 = some Tryd.t40) rfl rfl rfl (by kernel_rfl)
abbrev u41 := U.mk (P := Tryd.prog) (t := 41) Tryd.underlying41
abbrev na41 := Na.mk (P := Tryd.prog) (t := 41) Tryd.isAgg41
abbrev inf41 := inf_mk (P := Tryd.prog) (t := 41) (sz := 1) (by_ := 8) (by kernel_rfl : Tryd.prog.info? 41 = some Tryd.t41) rfl rfl rfl (by kernel_rfl)
abbrev u42 := U.mk (P := Tryd.prog) (t := 42) Tryd.underlying42
abbrev na42 := Na.mk (P := Tryd.prog) (t := 42) Tryd.isAgg42
abbrev inf42 := inf_mk (P := Tryd.prog) (t := 42) (sz := 1) (by_ := 8) (by kernel_rfl : Tryd.prog.info? 42 = some Tryd.t42) rfl rfl rfl (by kernel_rfl)
abbrev u43 := U.mk (P := Tryd.prog) (t := 43) Tryd.underlying43
abbrev na43 := Na.mk (P := Tryd.prog) (t := 43) Tryd.isAgg43
abbrev inf43 := inf_mk (P := Tryd.prog) (t := 43) (sz := 1) (by_ := 8) (by kernel_rfl : Tryd.prog.info? 43 = some Tryd.t43) rfl rfl rfl (by kernel_rfl)
abbrev u44 := U.mk (P := Tryd.prog) (t := 44) Tryd.underlying44
abbrev na44 := Na.mk (P := Tryd.prog) (t := 44) Tryd.isAgg44
abbrev inf44 := inf_mk (P := Tryd.prog) (t := 44) (sz := 1) (by_ := 8) (by kernel_rfl : Tryd.prog.info? 44 = some Tryd.t44) rfl rfl rfl (by kernel_rfl)
abbrev u45 := U.mk (P := Tryd.prog) (t := 45) Tryd.underlying45
abbrev na45 := Na.mk (P := Tryd.prog) (t := 45) Tryd.isAgg45
abbrev inf45 := inf_mk (P := Tryd.prog) (t := 45) (sz := 1) (by_ := 8) (by kernel_rfl : Tryd.prog.info? 45 = some Tryd.t45) rfl rfl rfl (by kernel_rfl)
abbrev u46 := U.mk (P := Tryd.prog) (t := 46) Tryd.underlying46
abbrev na46 := Na.mk (P := Tryd.prog) (t := 46) Tryd.isAgg46
abbrev inf46 := inf_mk (P := Tryd.prog) (t := 46) (sz := 1) (by_ := 8) (by kernel_rfl : Tryd.prog.info? 46 = some Tryd.t46) rfl rfl rfl (by kernel_rfl)
abbrev u47 := U.mk (P := Tryd.prog) (t := 47) Tryd.underlying47
abbrev na47 := Na.mk (P := Tryd.prog) (t := 47) Tryd.isAgg47
abbrev inf47 := inf_mk (P := Tryd.prog) (t := 47) (sz := 1) (by_ := 24) (by kernel_rfl : Tryd.prog.info? 47 = some Tryd.t47) rfl rfl rfl (by kernel_rfl)
abbrev u48 := U.mk (P := Tryd.prog) (t := 48) Tryd.underlying48
abbrev na48 := Na.mk (P := Tryd.prog) (t := 48) Tryd.isAgg48
abbrev inf48 := inf_mk (P := Tryd.prog) (t := 48) (sz := 1) (by_ := 8) (by kernel_rfl : Tryd.prog.info? 48 = some Tryd.t48) rfl rfl rfl (by kernel_rfl)
abbrev u49 := U.mk (P := Tryd.prog) (t := 49) Tryd.underlying49
abbrev na49 := Na.mk (P := Tryd.prog) (t := 49) Tryd.isAgg49
abbrev inf49 := inf_mk (P := Tryd.prog) (t := 49) (sz := 1) (by_ := 8) (by kernel_rfl : Tryd.prog.info? 49 = some Tryd.t49) rfl rfl rfl (by kernel_rfl)
abbrev u50 := U.mk (P := Tryd.prog) (t := 50) Tryd.underlying50
abbrev na50 := Na.mk (P := Tryd.prog) (t := 50) Tryd.isAgg50
abbrev inf50 := inf_mk (P := Tryd.prog) (t := 50) (sz := 1) (by_ := 8) (by kernel_rfl : Tryd.prog.info? 50 = some Tryd.t50) rfl rfl rfl (by kernel_rfl)
abbrev u51 := U.mk (P := Tryd.prog) (t := 51) Tryd.underlying51
abbrev na51 := Na.mk (P := Tryd.prog) (t := 51) Tryd.isAgg51
abbrev inf51 := inf_mk (P := Tryd.prog) (t := 51) (sz := 1) (by_ := 24) (by kernel_rfl : Tryd.prog.info? 51 = some Tryd.t51) rfl rfl rfl (by kernel_rfl)
abbrev u52 := U.mk (P := Tryd.prog) (t := 52) Tryd.underlying52
abbrev ag52 := Ag.mk (P := Tryd.prog) (t := 52) (sz := 9) Tryd.isAgg52 Tryd.sizeOf52
abbrev inf52 := inf_mk (P := Tryd.prog) (t := 52) (sz := 9) (by_ := 104) (by kernel_rfl : Tryd.prog.info? 52 = some Tryd.t52) rfl rfl rfl (by kernel_rfl)
abbrev u53 := U.mk (P := Tryd.prog) (t := 53) Tryd.underlying53
abbrev ag53 := Ag.mk (P := Tryd.prog) (t := 53) (sz := 9) Tryd.isAgg53 Tryd.sizeOf53
abbrev inf53 := inf_mk (P := Tryd.prog) (t := 53) (sz := 9) (by_ := 104) (by kernel_rfl : Tryd.prog.info? 53 = some Tryd.t53) rfl rfl rfl (by kernel_rfl)
abbrev u54 := U.mk (P := Tryd.prog) (t := 54) Tryd.underlying54
abbrev na54 := Na.mk (P := Tryd.prog) (t := 54) Tryd.isAgg54
abbrev inf54 := inf_mk (P := Tryd.prog) (t := 54) (sz := 1) (by_ := 8) (by kernel_rfl : Tryd.prog.info? 54 = some Tryd.t54) rfl rfl rfl (by kernel_rfl)
abbrev u55 := U.mk (P := Tryd.prog) (t := 55) Tryd.underlying55
abbrev na55 := Na.mk (P := Tryd.prog) (t := 55) Tryd.isAgg55
abbrev inf55 := inf_mk (P := Tryd.prog) (t := 55) (sz := 1) (by_ := 8) (by kernel_rfl : Tryd.prog.info? 55 = some Tryd.t55) rfl rfl rfl (by kernel_rfl)
abbrev u56 := U.mk (P := Tryd.prog) (t := 56) Tryd.underlying56
abbrev ag56 := Ag.mk (P := Tryd.prog) (t := 56) (sz := 4) Tryd.isAgg56 Tryd.sizeOf56
abbrev inf56 := inf_mk (P := Tryd.prog) (t := 56) (sz := 4) (by_ := 56) (by kernel_rfl : Tryd.prog.info? 56 = some Tryd.t56) rfl rfl rfl (by kernel_rfl)
abbrev u57 := U.mk (P := Tryd.prog) (t := 57) Tryd.underlying57
abbrev ag57 := Ag.mk (P := Tryd.prog) (t := 57) (sz := 4) Tryd.isAgg57 Tryd.sizeOf57
abbrev inf57 := inf_mk (P := Tryd.prog) (t := 57) (sz := 4) (by_ := 56) (by kernel_rfl : Tryd.prog.info? 57 = some Tryd.t57) rfl rfl rfl (by kernel_rfl)
abbrev u58 := U.mk (P := Tryd.prog) (t := 58) Tryd.underlying58
abbrev na58 := Na.mk (P := Tryd.prog) (t := 58) Tryd.isAgg58
abbrev inf58 := inf_mk (P := Tryd.prog) (t := 58) (sz := 1) (by_ := 8) (by kernel_rfl : Tryd.prog.info? 58 = some Tryd.t58) rfl rfl rfl (by kernel_rfl)
abbrev u59 := U.mk (P := Tryd.prog) (t := 59) Tryd.underlying59
abbrev na59 := Na.mk (P := Tryd.prog) (t := 59) Tryd.isAgg59
abbrev inf59 := inf_mk (P := Tryd.prog) (t := 59) (sz := 1) (by_ := 8) (by kernel_rfl : Tryd.prog.info? 59 = some Tryd.t59) rfl rfl rfl (by kernel_rfl)
abbrev u60 := U.mk (P := Tryd.prog) (t := 60) Tryd.underlying60
abbrev na60 := Na.mk (P := Tryd.prog) (t := 60) Tryd.isAgg60
abbrev inf60 := inf_mk (P := Tryd.prog) (t := 60) (sz := 1) (by_ := 8) (by kernel_rfl : Tryd.prog.info? 60 = some Tryd.t60) rfl rfl rfl (by kernel_rfl)
abbrev u62 := U.mk (P := Tryd.prog) (t := 62) Tryd.underlying62
abbrev na62 := Na.mk (P := Tryd.prog) (t := 62) Tryd.isAgg62
abbrev inf62 := inf_mk (P := Tryd.prog) (t := 62) (sz := 1) (by_ := 8) (by kernel_rfl : Tryd.prog.info? 62 = some Tryd.t62) rfl rfl rfl (by kernel_rfl)
abbrev u63 := U.mk (P := Tryd.prog) (t := 63) Tryd.underlying63
abbrev na63 := Na.mk (P := Tryd.prog) (t := 63) Tryd.isAgg63
abbrev inf63 := inf_mk (P := Tryd.prog) (t := 63) (sz := 1) (by_ := 8) (by kernel_rfl : Tryd.prog.info? 63 = some Tryd.t63) rfl rfl rfl (by kernel_rfl)
abbrev u64 := U.mk (P := Tryd.prog) (t := 64) Tryd.underlying64
abbrev ag64 := Ag.mk (P := Tryd.prog) (t := 64) (sz := 2) Tryd.isAgg64 Tryd.sizeOf64
abbrev inf64 := inf_mk (P := Tryd.prog) (t := 64) (sz := 2) (by_ := 16) (by kernel_rfl : Tryd.prog.info? 64 = some Tryd.t64) rfl rfl rfl (by kernel_rfl)
abbrev u65 := U.mk (P := Tryd.prog) (t := 65) Tryd.underlying65
abbrev ag65 := Ag.mk (P := Tryd.prog) (t := 65) (sz := 2) Tryd.isAgg65 Tryd.sizeOf65
abbrev inf65 := inf_mk (P := Tryd.prog) (t := 65) (sz := 2) (by_ := 16) (by kernel_rfl : Tryd.prog.info? 65 = some Tryd.t65) rfl rfl rfl (by kernel_rfl)
abbrev u66 := U.mk (P := Tryd.prog) (t := 66) Tryd.underlying66
abbrev na66 := Na.mk (P := Tryd.prog) (t := 66) Tryd.isAgg66
abbrev inf66 := inf_mk (P := Tryd.prog) (t := 66) (sz := 1) (by_ := 8) (by kernel_rfl : Tryd.prog.info? 66 = some Tryd.t66) rfl rfl rfl (by kernel_rfl)
abbrev u67 := U.mk (P := Tryd.prog) (t := 67) Tryd.underlying67
abbrev ag67 := Ag.mk (P := Tryd.prog) (t := 67) (sz := 12) Tryd.isAgg67 Tryd.sizeOf67
abbrev inf67 := inf_mk (P := Tryd.prog) (t := 67) (sz := 12) (by_ := 120) (by kernel_rfl : Tryd.prog.info? 67 = some Tryd.t67) rfl rfl rfl (by kernel_rfl)
abbrev u68 := U.mk (P := Tryd.prog) (t := 68) Tryd.underlying68
abbrev ag68 := Ag.mk (P := Tryd.prog) (t := 68) (sz := 12) Tryd.isAgg68 Tryd.sizeOf68
abbrev inf68 := inf_mk (P := Tryd.prog) (t := 68) (sz := 12) (by_ := 120) (by kernel_rfl : Tryd.prog.info? 68 = some Tryd.t68) rfl rfl rfl (by kernel_rfl)
abbrev u70 := U.mk (P := Tryd.prog) (t := 70) Tryd.underlying70
abbrev na70 := Na.mk (P := Tryd.prog) (t := 70) Tryd.isAgg70
abbrev inf70 := inf_mk (P := Tryd.prog) (t := 70) (sz := 1) (by_ := 8) (by kernel_rfl : Tryd.prog.info? 70 = some Tryd.t70) rfl rfl rfl (by kernel_rfl)
abbrev u71 := U.mk (P := Tryd.prog) (t := 71) Tryd.underlying71
abbrev na71 := Na.mk (P := Tryd.prog) (t := 71) Tryd.isAgg71
abbrev inf71 := inf_mk (P := Tryd.prog) (t := 71) (sz := 1) (by_ := 8) (by kernel_rfl : Tryd.prog.info? 71 = some Tryd.t71) rfl rfl rfl (by kernel_rfl)
abbrev u72 := U.mk (P := Tryd.prog) (t := 72) Tryd.underlying72
abbrev na72 := Na.mk (P := Tryd.prog) (t := 72) Tryd.isAgg72
abbrev inf72 := inf_mk (P := Tryd.prog) (t := 72) (sz := 1) (by_ := 8) (by kernel_rfl : Tryd.prog.info? 72 = some Tryd.t72) rfl rfl rfl (by kernel_rfl)
abbrev u73 := U.mk (P := Tryd.prog) (t := 73) Tryd.underlying73
abbrev na73 := Na.mk (P := Tryd.prog) (t := 73) Tryd.isAgg73
abbrev inf73 := inf_mk (P := Tryd.prog) (t := 73) (sz := 1) (by_ := 8) (by kernel_rfl : Tryd.prog.info? 73 = some Tryd.t73) rfl rfl rfl (by kernel_rfl)
abbrev u74 := U.mk (P := Tryd.prog) (t := 74) Tryd.underlying74
abbrev na74 := Na.mk (P := Tryd.prog) (t := 74) Tryd.isAgg74
abbrev inf74 := inf_mk (P := Tryd.prog) (t := 74) (sz := 1) (by_ := 8) (by kernel_rfl : Tryd.prog.info? 74 = some Tryd.t74) rfl rfl rfl (by kernel_rfl)
abbrev u75 := U.mk (P := Tryd.prog) (t := 75) Tryd.underlying75
abbrev na75 := Na.mk (P := Tryd.prog) (t := 75) Tryd.isAgg75
abbrev inf75 := inf_mk (P := Tryd.prog) (t := 75) (sz := 1) (by_ := 8) (by kernel_rfl : Tryd.prog.info? 75 = some Tryd.t75) rfl rfl rfl (by kernel_rfl)
abbrev u76 := U.mk (P := Tryd.prog) (t := 76) Tryd.underlying76
abbrev na76 := Na.mk (P := Tryd.prog) (t := 76) Tryd.isAgg76
abbrev inf76 := inf_mk (P := Tryd.prog) (t := 76) (sz := 1) (by_ := 8) (by kernel_rfl : Tryd.prog.info? 76 = some Tryd.t76) rfl rfl rfl (by kernel_rfl)
abbrev u77 := U.mk (P := Tryd.prog) (t := 77) Tryd.underlying77
abbrev na77 := Na.mk (P := Tryd.prog) (t := 77) Tryd.isAgg77
abbrev inf77 := inf_mk (P := Tryd.prog) (t := 77) (sz := 1) (by_ := 8) (by kernel_rfl : Tryd.prog.info? 77 = some Tryd.t77) rfl rfl rfl (by kernel_rfl)
abbrev u78 := U.mk (P := Tryd.prog) (t := 78) Tryd.underlying78
abbrev na78 := Na.mk (P := Tryd.prog) (t := 78) Tryd.isAgg78
abbrev inf78 := inf_mk (P := Tryd.prog) (t := 78) (sz := 1) (by_ := 8) (by kernel_rfl : Tryd.prog.info? 78 = some Tryd.t78) rfl rfl rfl (by kernel_rfl)
abbrev u79 := U.mk (P := Tryd.prog) (t := 79) Tryd.underlying79
abbrev na79 := Na.mk (P := Tryd.prog) (t := 79) Tryd.isAgg79
abbrev inf79 := inf_mk (P := Tryd.prog) (t := 79) (sz := 1) (by_ := 8) (by kernel_rfl : Tryd.prog.info? 79 = some Tryd.t79) rfl rfl rfl (by kernel_rfl)
abbrev u80 := U.mk (P := Tryd.prog) (t := 80) Tryd.underlying80
abbrev na80 := Na.mk (P := Tryd.prog) (t := 80) Tryd.isAgg80
abbrev inf80 := inf_mk (P := Tryd.prog) (t := 80) (sz := 1) (by_ := 8) (by kernel_rfl : Tryd.prog.info? 80 = some Tryd.t80) rfl rfl rfl (by kernel_rfl)
abbrev u81 := U.mk (P := Tryd.prog) (t := 81) Tryd.underlying81
abbrev na81 := Na.mk (P := Tryd.prog) (t := 81) Tryd.isAgg81
abbrev inf81 := inf_mk (P := Tryd.prog) (t := 81) (sz := 1) (by_ := 8) (by kernel_rfl : Tryd.prog.info? 81 = some Tryd.t81) rfl rfl rfl (by kernel_rfl)
abbrev u82 := U.mk (P := Tryd.prog) (t := 82) Tryd.underlying82
abbrev na82 := Na.mk (P := Tryd.prog) (t := 82) Tryd.isAgg82
abbrev inf82 := inf_mk (P := Tryd.prog) (t := 82) (sz := 1) (by_ := 8) (by kernel_rfl : Tryd.prog.info? 82 = some Tryd.t82) rfl rfl rfl (by kernel_rfl)
abbrev u83 := U.mk (P := Tryd.prog) (t := 83) Tryd.underlying83
abbrev na83 := Na.mk (P := Tryd.prog) (t := 83) Tryd.isAgg83
abbrev inf83 := inf_mk (P := Tryd.prog) (t := 83) (sz := 1) (by_ := 8) (by kernel_rfl : Tryd.prog.info? 83 = some Tryd.t83) rfl rfl rfl (by kernel_rfl)
abbrev u85 := U.mk (P := Tryd.prog) (t := 85) Tryd.underlying85
abbrev na85 := Na.mk (P := Tryd.prog) (t := 85) Tryd.isAgg85
abbrev inf85 := inf_mk (P := Tryd.prog) (t := 85) (sz := 1) (by_ := 8) (by kernel_rfl : Tryd.prog.info? 85 = some Tryd.t85) rfl rfl rfl (by kernel_rfl)
abbrev u86 := U.mk (P := Tryd.prog) (t := 86) Tryd.underlying86
abbrev na86 := Na.mk (P := Tryd.prog) (t := 86) Tryd.isAgg86
abbrev inf86 := inf_mk (P := Tryd.prog) (t := 86) (sz := 1) (by_ := 8) (by kernel_rfl : Tryd.prog.info? 86 = some Tryd.t86) rfl rfl rfl (by kernel_rfl)
abbrev u87 := U.mk (P := Tryd.prog) (t := 87) Tryd.underlying87
abbrev na87 := Na.mk (P := Tryd.prog) (t := 87) Tryd.isAgg87
abbrev inf87 := inf_mk (P := Tryd.prog) (t := 87) (sz := 1) (by_ := 8) (by kernel_rfl : Tryd.prog.info? 87 = some Tryd.t87) rfl rfl rfl (by kernel_rfl)
abbrev u88 := U.mk (P := Tryd.prog) (t := 88) Tryd.underlying88
abbrev na88 := Na.mk (P := Tryd.prog) (t := 88) Tryd.isAgg88
abbrev inf88 := inf_mk (P := Tryd.prog) (t := 88) (sz := 1) (by_ := 8) (by kernel_rfl : Tryd.prog.info? 88 = some Tryd.t88) rfl rfl rfl (by kernel_rfl)
abbrev u89 := U.mk (P := Tryd.prog) (t := 89) Tryd.underlying89
abbrev na89 := Na.mk (P := Tryd.prog) (t := 89) Tryd.isAgg89
abbrev inf89 := inf_mk (P := Tryd.prog) (t := 89) (sz := 1) (by_ := 8) (by kernel_rfl : Tryd.prog.info? 89 = some Tryd.t89) rfl rfl rfl (by kernel_rfl)
abbrev u90 := U.mk (P := Tryd.prog) (t := 90) Tryd.underlying90
abbrev na90 := Na.mk (P := Tryd.prog) (t := 90) Tryd.isAgg90
abbrev inf90 := inf_mk (P := Tryd.prog) (t := 90) (sz := 1) (by_ := 8) (by kernel_rfl : Tryd.prog.info? 90 = some Tryd.t90) rfl rfl rfl (by kernel_rfl)
abbrev u91 := U.mk (P := Tryd.prog) (t := 91) Tryd.underlying91
abbrev na91 := Na.mk (P := Tryd.prog) (t := 91) Tryd.isAgg91
abbrev inf91 := inf_mk (P := Tryd.prog) (t := 91) (sz := 1) (by_ := 8) (by kernel_rfl : Tryd.prog.info? 91 = some Tryd.t91) rfl rfl rfl (by kernel_rfl)
abbrev u92 := U.mk (P := Tryd.prog) (t := 92) Tryd.underlying92
abbrev ag92 := Ag.mk (P := Tryd.prog) (t := 92) (sz := 256) Tryd.isAgg92 Tryd.sizeOf92
abbrev inf92 := inf_mk (P := Tryd.prog) (t := 92) (sz := 256) (by_ := 256) (z := .agg Tryd.zeroCells92) (by kernel_rfl : Tryd.prog.info? 92 = some Tryd.t92) rfl rfl (by kernel_rfl) (by kernel_rfl)
abbrev u93 := U.mk (P := Tryd.prog) (t := 93) Tryd.underlying93
abbrev ag93 := Ag.mk (P := Tryd.prog) (t := 93) (sz := 2) Tryd.isAgg93 Tryd.sizeOf93
abbrev inf93 := inf_mk (P := Tryd.prog) (t := 93) (sz := 2) (by_ := 2) (by kernel_rfl : Tryd.prog.info? 93 = some Tryd.t93) rfl rfl rfl (by kernel_rfl)
abbrev u94 := U.mk (P := Tryd.prog) (t := 94) Tryd.underlying94
abbrev ag94 := Ag.mk (P := Tryd.prog) (t := 94) (sz := 2) Tryd.isAgg94 Tryd.sizeOf94
abbrev inf94 := inf_mk (P := Tryd.prog) (t := 94) (sz := 2) (by_ := 2) (by kernel_rfl : Tryd.prog.info? 94 = some Tryd.t94) rfl rfl rfl (by kernel_rfl)
abbrev u95 := U.mk (P := Tryd.prog) (t := 95) Tryd.underlying95
abbrev ag95 := Ag.mk (P := Tryd.prog) (t := 95) (sz := 32) Tryd.isAgg95 Tryd.sizeOf95
abbrev inf95 := inf_mk (P := Tryd.prog) (t := 95) (sz := 32) (by_ := 32) (by kernel_rfl : Tryd.prog.info? 95 = some Tryd.t95) rfl rfl rfl (by kernel_rfl)
abbrev u96 := U.mk (P := Tryd.prog) (t := 96) Tryd.underlying96
abbrev na96 := Na.mk (P := Tryd.prog) (t := 96) Tryd.isAgg96
abbrev inf96 := inf_mk (P := Tryd.prog) (t := 96) (sz := 1) (by_ := 4) (by kernel_rfl : Tryd.prog.info? 96 = some Tryd.t96) rfl rfl rfl (by kernel_rfl)
abbrev u98 := U.mk (P := Tryd.prog) (t := 98) Tryd.underlying98
abbrev na98 := Na.mk (P := Tryd.prog) (t := 98) Tryd.isAgg98
abbrev inf98 := inf_mk (P := Tryd.prog) (t := 98) (sz := 1) (by_ := 8) (by kernel_rfl : Tryd.prog.info? 98 = some Tryd.t98) rfl rfl rfl (by kernel_rfl)
abbrev u99 := U.mk (P := Tryd.prog) (t := 99) Tryd.underlying99
abbrev na99 := Na.mk (P := Tryd.prog) (t := 99) Tryd.isAgg99
abbrev inf99 := inf_mk (P := Tryd.prog) (t := 99) (sz := 1) (by_ := 8) (by kernel_rfl : Tryd.prog.info? 99 = some Tryd.t99) rfl rfl rfl (by kernel_rfl)
abbrev u100 := U.mk (P := Tryd.prog) (t := 100) Tryd.underlying100
abbrev na100 := Na.mk (P := Tryd.prog) (t := 100) Tryd.isAgg100
abbrev inf100 := inf_mk (P := Tryd.prog) (t := 100) (sz := 1) (by_ := 8) (by kernel_rfl : Tryd.prog.info? 100 = some Tryd.t100) rfl rfl rfl (by kernel_rfl)
abbrev u101 := U.mk (P := Tryd.prog) (t := 101) Tryd.underlying101
abbrev na101 := Na.mk (P := Tryd.prog) (t := 101) Tryd.isAgg101
abbrev inf101 := inf_mk (P := Tryd.prog) (t := 101) (sz := 1) (by_ := 8) (by kernel_rfl : Tryd.prog.info? 101 = some Tryd.t101) rfl rfl rfl (by kernel_rfl)
abbrev u102 := U.mk (P := Tryd.prog) (t := 102) Tryd.underlying102
abbrev na102 := Na.mk (P := Tryd.prog) (t := 102) Tryd.isAgg102
abbrev inf102 := inf_mk (P := Tryd.prog) (t := 102) (sz := 1) (by_ := 8) (by kernel_rfl : Tryd.prog.info? 102 = some Tryd.t102) rfl rfl rfl (by kernel_rfl)
abbrev u103 := U.mk (P := Tryd.prog) (t := 103) Tryd.underlying103
abbrev na103 := Na.mk (P := Tryd.prog) (t := 103) Tryd.isAgg103
abbrev inf103 := inf_mk (P := Tryd.prog) (t := 103) (sz := 1) (by_ := 8) (by kernel_rfl : Tryd.prog.info? 103 = some Tryd.t103) rfl rfl rfl (by kernel_rfl)
abbrev u105 := U.mk (P := Tryd.prog) (t := 105) Tryd.underlying105
abbrev na105 := Na.mk (P := Tryd.prog) (t := 105) Tryd.isAgg105
abbrev inf105 := inf_mk (P := Tryd.prog) (t := 105) (sz := 1) (by_ := 8) (by kernel_rfl : Tryd.prog.info? 105 = some Tryd.t105) rfl rfl rfl (by kernel_rfl)
abbrev u106 := U.mk (P := Tryd.prog) (t := 106) Tryd.underlying106
abbrev na106 := Na.mk (P := Tryd.prog) (t := 106) Tryd.isAgg106
abbrev inf106 := inf_mk (P := Tryd.prog) (t := 106) (sz := 1) (by_ := 8) (by kernel_rfl : Tryd.prog.info? 106 = some Tryd.t106) rfl rfl rfl (by kernel_rfl)
abbrev u107 := U.mk (P := Tryd.prog) (t := 107) Tryd.underlying107
abbrev na107 := Na.mk (P := Tryd.prog) (t := 107) Tryd.isAgg107
abbrev inf107 := inf_mk (P := Tryd.prog) (t := 107) (sz := 1) (by_ := 8) (by kernel_rfl : Tryd.prog.info? 107 = some Tryd.t107) rfl rfl rfl (by kernel_rfl)
abbrev u109 := U.mk (P := Tryd.prog) (t := 109) Tryd.underlying109
abbrev na109 := Na.mk (P := Tryd.prog) (t := 109) Tryd.isAgg109
abbrev inf109 := inf_mk (P := Tryd.prog) (t := 109) (sz := 1) (by_ := 8) (by kernel_rfl : Tryd.prog.info? 109 = some Tryd.t109) rfl rfl rfl (by kernel_rfl)
abbrev u110 := U.mk (P := Tryd.prog) (t := 110) Tryd.underlying110
abbrev na110 := Na.mk (P := Tryd.prog) (t := 110) Tryd.isAgg110
abbrev inf110 := inf_mk (P := Tryd.prog) (t := 110) (sz := 1) (by_ := 8) (by kernel_rfl : Tryd.prog.info? 110 = some Tryd.t110) rfl rfl rfl (by kernel_rfl)
abbrev u111 := U.mk (P := Tryd.prog) (t := 111) Tryd.underlying111
abbrev na111 := Na.mk (P := Tryd.prog) (t := 111) Tryd.isAgg111
abbrev inf111 := inf_mk (P := Tryd.prog) (t := 111) (sz := 1) (by_ := 8) (by kernel_rfl : Tryd.prog.info? 111 = some Tryd.t111) rfl rfl rfl (by kernel_rfl)
abbrev u112 := U.mk (P := Tryd.prog) (t := 112) Tryd.underlying112
abbrev na112 := Na.mk (P := Tryd.prog) (t := 112) Tryd.isAgg112
abbrev inf112 := inf_mk (P := Tryd.prog) (t := 112) (sz := 1) (by_ := 8) (by kernel_rfl : Tryd.prog.info? 112 = some Tryd.t112) rfl rfl rfl (by kernel_rfl)
abbrev u113 := U.mk (P := Tryd.prog) (t := 113) Tryd.underlying113
abbrev na113 := Na.mk (P := Tryd.prog) (t := 113) Tryd.isAgg113
abbrev inf113 := inf_mk (P := Tryd.prog) (t := 113) (sz := 1) (by_ := 8) (by kernel_rfl : Tryd.prog.info? 113 = some Tryd.t113) rfl rfl rfl (by kernel_rfl)
abbrev u114 := U.mk (P := Tryd.prog) (t := 114) Tryd.underlying114
abbrev na114 := Na.mk (P := Tryd.prog) (t := 114) Tryd.isAgg114
abbrev inf114 := inf_mk (P := Tryd.prog) (t := 114) (sz := 1) (by_ := 8) (by kernel_rfl : Tryd.prog.info? 114 = some Tryd.t114) rfl rfl rfl (by kernel_rfl)
abbrev u115 := U.mk (P := Tryd.prog) (t := 115) Tryd.underlying115
abbrev na115 := Na.mk (P := Tryd.prog) (t := 115) Tryd.isAgg115
abbrev inf115 := inf_mk (P := Tryd.prog) (t := 115) (sz := 1) (by_ := 8) (by kernel_rfl : Tryd.prog.info? 115 = some Tryd.t115) rfl rfl rfl (by kernel_rfl)
abbrev u116 := U.mk (P := Tryd.prog) (t := 116) Tryd.underlying116
abbrev na116 := Na.mk (P := Tryd.prog) (t := 116) Tryd.isAgg116
abbrev inf116 := inf_mk (P := Tryd.prog) (t := 116) (sz := 1) (by_ := 8) (by kernel_rfl : Tryd.prog.info? 116 = some Tryd.t116) rfl rfl rfl (by kernel_rfl)
abbrev u117 := U.mk (P := Tryd.prog) (t := 117) Tryd.underlying117
abbrev na117 := Na.mk (P := Tryd.prog) (t := 117) Tryd.isAgg117
abbrev inf117 := inf_mk (P := Tryd.prog) (t := 117) (sz := 1) (by_ := 8) (by kernel_rfl : Tryd.prog.info? 117 = some Tryd.t117) rfl rfl rfl (by kernel_rfl)
abbrev u118 := U.mk (P := Tryd.prog) (t := 118) Tryd.underlying118
abbrev na118 := Na.mk (P := Tryd.prog) (t := 118) Tryd.isAgg118
abbrev inf118 := inf_mk (P := Tryd.prog) (t := 118) (sz := 1) (by_ := 8) (by kernel_rfl : Tryd.prog.info? 118 = some Tryd.t118) rfl rfl rfl (by kernel_rfl)
abbrev u119 := U.mk (P := Tryd.prog) (t := 119) Tryd.underlying119
abbrev na119 := Na.mk (P := Tryd.prog) (t := 119) Tryd.isAgg119
abbrev inf119 := inf_mk (P := Tryd.prog) (t := 119) (sz := 1) (by_ := 8) (by kernel_rfl : Tryd.prog.info? 119 = some Tryd.t119) rfl rfl rfl (by kernel_rfl)
abbrev u121 := U.mk (P := Tryd.prog) (t := 121) Tryd.underlying121
abbrev na121 := Na.mk (P := Tryd.prog) (t := 121) Tryd.isAgg121
abbrev inf121 := inf_mk (P := Tryd.prog) (t := 121) (sz := 1) (by_ := 8) (by kernel_rfl : Tryd.prog.info? 121 = some Tryd.t121) rfl rfl rfl (by kernel_rfl)
abbrev u122 := U.mk (P := Tryd.prog) (t := 122) Tryd.underlying122
abbrev na122 := Na.mk (P := Tryd.prog) (t := 122) Tryd.isAgg122
abbrev inf122 := inf_mk (P := Tryd.prog) (t := 122) (sz := 1) (by_ := 8) (by kernel_rfl : Tryd.prog.info? 122 = some Tryd.t122) rfl rfl rfl (by kernel_rfl)
abbrev u123 := U.mk (P := Tryd.prog) (t := 123) Tryd.underlying123
abbrev ag123 := Ag.mk (P := Tryd.prog) (t := 123) (sz := 4) Tryd.isAgg123 Tryd.sizeOf123
abbrev inf123 := inf_mk (P := Tryd.prog) (t := 123) (sz := 4) (by_ := 40) (by kernel_rfl : Tryd.prog.info? 123 = some Tryd.t123) rfl rfl rfl (by kernel_rfl)
abbrev u124 := U.mk (P := Tryd.prog) (t := 124) Tryd.underlying124
abbrev ag124 := Ag.mk (P := Tryd.prog) (t := 124) (sz := 4) Tryd.isAgg124 Tryd.sizeOf124
abbrev inf124 := inf_mk (P := Tryd.prog) (t := 124) (sz := 4) (by_ := 40) (by kernel_rfl : Tryd.prog.info? 124 = some Tryd.t124) rfl rfl rfl (by kernel_rfl)
abbrev u125 := U.mk (P := Tryd.prog) (t := 125) Tryd.underlying125
abbrev ag125 := Ag.mk (P := Tryd.prog) (t := 125) (sz := 0) Tryd.isAgg125 Tryd.sizeOf125
abbrev u126 := U.mk (P := Tryd.prog) (t := 126) Tryd.underlying126
abbrev ag126 := Ag.mk (P := Tryd.prog) (t := 126) (sz := 0) Tryd.isAgg126 Tryd.sizeOf126
abbrev u127 := U.mk (P := Tryd.prog) (t := 127) Tryd.underlying127
abbrev ag127 := Ag.mk (P := Tryd.prog) (t := 127) (sz := 0) Tryd.isAgg127 Tryd.sizeOf127
abbrev u128 := U.mk (P := Tryd.prog) (t := 128) Tryd.underlying128
abbrev na128 := Na.mk (P := Tryd.prog) (t := 128) Tryd.isAgg128
abbrev inf128 := inf_mk (P := Tryd.prog) (t := 128) (sz := 1) (by_ := 8) (by kernel_rfl : Tryd.prog.info? 128 = some Tryd.t128) rfl rfl rfl (by kernel_rfl)
abbrev u129 := U.mk (P := Tryd.prog) (t := 129) Tryd.underlying129
abbrev na129 := Na.mk (P := Tryd.prog) (t := 129) Tryd.isAgg129
abbrev inf129 := inf_mk (P := Tryd.prog) (t := 129) (sz := 1) (by_ := 1) (by kernel_rfl : Tryd.prog.info? 129 = some Tryd.t129) rfl rfl rfl (by kernel_rfl)
abbrev u130 := U.mk (P := Tryd.prog) (t := 130) Tryd.underlying130
abbrev na130 := Na.mk (P := Tryd.prog) (t := 130) Tryd.isAgg130
abbrev inf130 := inf_mk (P := Tryd.prog) (t := 130) (sz := 1) (by_ := 1) (by kernel_rfl : Tryd.prog.info? 130 = some Tryd.t130) rfl rfl rfl (by kernel_rfl)
abbrev u131 := U.mk (P := Tryd.prog) (t := 131) Tryd.underlying131
abbrev na131 := Na.mk (P := Tryd.prog) (t := 131) Tryd.isAgg131
abbrev inf131 := inf_mk (P := Tryd.prog) (t := 131) (sz := 1) (by_ := 8) (by kernel_rfl : Tryd.prog.info? 131 = some Tryd.t131) rfl rfl rfl (by kernel_rfl)
abbrev u132 := U.mk (P := Tryd.prog) (t := 132) Tryd.underlying132
abbrev na132 := Na.mk (P := Tryd.prog) (t := 132) Tryd.isAgg132
abbrev inf132 := inf_mk (P := Tryd.prog) (t := 132) (sz := 1) (by_ := 8) (by kernel_rfl : Tryd.prog.info? 132 = some Tryd.t132) rfl rfl rfl (by kernel_rfl)
abbrev u133 := U.mk (P := Tryd.prog) (t := 133) Tryd.underlying133
abbrev na133 := Na.mk (P := Tryd.prog) (t := 133) Tryd.isAgg133
abbrev inf133 := inf_mk (P := Tryd.prog) (t := 133) (sz := 1) (by_ := 4) (by kernel_rfl : Tryd.prog.info? 133 = some Tryd.t133) rfl rfl rfl (by kernel_rfl)
abbrev u134 := U.mk (P := Tryd.prog) (t := 134) Tryd.underlying134
abbrev na134 := Na.mk (P := Tryd.prog) (t := 134) Tryd.isAgg134
abbrev inf134 := inf_mk (P := Tryd.prog) (t := 134) (sz := 1) (by_ := 4) (by kernel_rfl : Tryd.prog.info? 134 = some Tryd.t134) rfl rfl rfl (by kernel_rfl)
abbrev u135 := U.mk (P := Tryd.prog) (t := 135) Tryd.underlying135
abbrev ag135 := Ag.mk (P := Tryd.prog) (t := 135) (sz := 11) Tryd.isAgg135 Tryd.sizeOf135
abbrev inf135 := inf_mk (P := Tryd.prog) (t := 135) (sz := 11) (by_ := 48) (by kernel_rfl : Tryd.prog.info? 135 = some Tryd.t135) rfl rfl rfl (by kernel_rfl)
abbrev u136 := U.mk (P := Tryd.prog) (t := 136) Tryd.underlying136
abbrev ag136 := Ag.mk (P := Tryd.prog) (t := 136) (sz := 11) Tryd.isAgg136 Tryd.sizeOf136
abbrev inf136 := inf_mk (P := Tryd.prog) (t := 136) (sz := 11) (by_ := 48) (by kernel_rfl : Tryd.prog.info? 136 = some Tryd.t136) rfl rfl rfl (by kernel_rfl)
abbrev u137 := U.mk (P := Tryd.prog) (t := 137) Tryd.underlying137
abbrev na137 := Na.mk (P := Tryd.prog) (t := 137) Tryd.isAgg137
abbrev inf137 := inf_mk (P := Tryd.prog) (t := 137) (sz := 1) (by_ := 8) (by kernel_rfl : Tryd.prog.info? 137 = some Tryd.t137) rfl rfl rfl (by kernel_rfl)
attribute [instance] u1 na1 inf1 u2 na2 inf2 u3 na3 inf3 u4 na4 inf4 u5 na5 inf5 u6 na6 inf6 u7 ag7 inf7 u8 ag8 inf8 u9 na9 inf9 u10 na10 inf10 u11 na11 inf11 u12 na12 inf12 u13 ag13 inf13 u14 ag14 inf14 u15 na15 inf15 u16 na16 inf16 u17 na17 inf17 u18 ag18 inf18 u19 ag19 inf19 u20 na20 inf20 u21 na21 inf21 u22 na22 inf22 u24 na24 inf24 u25 na25 inf25 u26 na26 inf26 u27 na27 inf27 u28 na28 inf28 u29 na29 inf29 u30 na30 inf30 u31 na31 inf31 u32 na32 inf32 u34 na34 inf34 u35 ag35 inf35 u36 ag36 inf36 u37 ag37 inf37 u38 ag38 inf38 u40 na40 inf40 u41 na41 inf41 u42 na42 inf42 u43 na43 inf43 u44 na44 inf44 u45 na45 inf45 u46 na46 inf46 u47 na47 inf47 u48 na48 inf48 u49 na49 inf49 u50 na50 inf50 u51 na51 inf51 u52 ag52 inf52 u53 ag53 inf53 u54 na54 inf54 u55 na55 inf55 u56 ag56 inf56 u57 ag57 inf57 u58 na58 inf58 u59 na59 inf59 u60 na60 inf60 u62 na62 inf62 u63 na63 inf63 u64 ag64 inf64 u65 ag65 inf65 u66 na66 inf66 u67 ag67 inf67 u68 ag68 inf68 u70 na70 inf70 u71 na71 inf71 u72 na72 inf72 u73 na73 inf73 u74 na74 inf74 u75 na75 inf75 u76 na76 inf76 u77 na77 inf77 u78 na78 inf78 u79 na79 inf79 u80 na80 inf80 u81 na81 inf81 u82 na82 inf82 u83 na83 inf83 u85 na85 inf85 u86 na86 inf86 u87 na87 inf87 u88 na88 inf88 u89 na89 inf89 u90 na90 inf90 u91 na91 inf91 u92 ag92 inf92 u93 ag93 inf93 u94 ag94 inf94 u95 ag95 inf95 u96 na96 inf96 u98 na98 inf98 u99 na99 inf99 u100 na100 inf100 u101 na101 inf101 u102 na102 inf102 u103 na103 inf103 u105 na105 inf105 u106 na106 inf106 u107 na107 inf107 u109 na109 inf109 u110 na110 inf110 u111 na111 inf111 u112 na112 inf112 u113 na113 inf113 u114 na114 inf114 u115 na115 inf115 u116 na116 inf116 u117 na117 inf117 u118 na118 inf118 u119 na119 inf119 u121 na121 inf121 u122 na122 inf122 u123 ag123 inf123 u124 ag124 inf124 u125 ag125 u126 ag126 u127 ag127 u128 na128 inf128 u129 na129 inf129 u130 na130 inf130 u131 na131 inf131 u132 na132 inf132 u133 na133 inf133 u134 na134 inf134 u135 ag135 inf135 u136 ag136 inf136 u137 na137 inf137
theorem fd7_0 : Fd Tryd.prog 7 0 0 := fd_mk (P := Tryd.prog) (s := 7) (i := 0) Tryd.underlying7 rfl inf2 (by decide)
theorem fv7_0 : Fv Tryd.prog 7 0 0 := fv_mk (P := Tryd.prog) (s := 7) (i := 0) Tryd.underlying7 rfl na2
theorem fd7_1 : Fd Tryd.prog 7 1 1 := fd_mk (P := Tryd.prog) (s := 7) (i := 1) Tryd.underlying7 rfl inf3 (by decide)
theorem fv7_1 : Fv Tryd.prog 7 1 1 := fv_mk (P := Tryd.prog) (s := 7) (i := 1) Tryd.underlying7 rfl na3
theorem fd7_2 : Fd Tryd.prog 7 2 2 := fd_mk (P := Tryd.prog) (s := 7) (i := 2) Tryd.underlying7 rfl inf4 (by decide)
theorem fv7_2 : Fv Tryd.prog 7 2 2 := fv_mk (P := Tryd.prog) (s := 7) (i := 2) Tryd.underlying7 rfl na4
theorem fd7_3 : Fd Tryd.prog 7 3 3 := fd_mk (P := Tryd.prog) (s := 7) (i := 3) Tryd.underlying7 rfl inf6 (by decide)
theorem fv7_3 : Fv Tryd.prog 7 3 3 := fv_mk (P := Tryd.prog) (s := 7) (i := 3) Tryd.underlying7 rfl na6
theorem fd8_0 : Fd Tryd.prog 8 0 0 := fd_mk (P := Tryd.prog) (s := 8) (i := 0) Tryd.underlying8 rfl inf2 (by decide)
theorem fv8_0 : Fv Tryd.prog 8 0 0 := fv_mk (P := Tryd.prog) (s := 8) (i := 0) Tryd.underlying8 rfl na2
theorem fd8_1 : Fd Tryd.prog 8 1 1 := fd_mk (P := Tryd.prog) (s := 8) (i := 1) Tryd.underlying8 rfl inf3 (by decide)
theorem fv8_1 : Fv Tryd.prog 8 1 1 := fv_mk (P := Tryd.prog) (s := 8) (i := 1) Tryd.underlying8 rfl na3
theorem fd8_2 : Fd Tryd.prog 8 2 2 := fd_mk (P := Tryd.prog) (s := 8) (i := 2) Tryd.underlying8 rfl inf4 (by decide)
theorem fv8_2 : Fv Tryd.prog 8 2 2 := fv_mk (P := Tryd.prog) (s := 8) (i := 2) Tryd.underlying8 rfl na4
theorem fd8_3 : Fd Tryd.prog 8 3 3 := fd_mk (P := Tryd.prog) (s := 8) (i := 3) Tryd.underlying8 rfl inf6 (by decide)
theorem fv8_3 : Fv Tryd.prog 8 3 3 := fv_mk (P := Tryd.prog) (s := 8) (i := 3) Tryd.underlying8 rfl na6
theorem fd13_0 : Fd Tryd.prog 13 0 0 := fd_mk (P := Tryd.prog) (s := 13) (i := 0) Tryd.underlying13 rfl inf9 (by decide)
theorem fv13_0 : Fv Tryd.prog 13 0 0 := fv_mk (P := Tryd.prog) (s := 13) (i := 0) Tryd.underlying13 rfl na9
theorem fd13_1 : Fd Tryd.prog 13 1 1 := fd_mk (P := Tryd.prog) (s := 13) (i := 1) Tryd.underlying13 rfl inf12 (by decide)
theorem fv13_1 : Fv Tryd.prog 13 1 1 := fv_mk (P := Tryd.prog) (s := 13) (i := 1) Tryd.underlying13 rfl na12
theorem fd14_0 : Fd Tryd.prog 14 0 0 := fd_mk (P := Tryd.prog) (s := 14) (i := 0) Tryd.underlying14 rfl inf9 (by decide)
theorem fv14_0 : Fv Tryd.prog 14 0 0 := fv_mk (P := Tryd.prog) (s := 14) (i := 0) Tryd.underlying14 rfl na9
theorem fd14_1 : Fd Tryd.prog 14 1 1 := fd_mk (P := Tryd.prog) (s := 14) (i := 1) Tryd.underlying14 rfl inf12 (by decide)
theorem fv14_1 : Fv Tryd.prog 14 1 1 := fv_mk (P := Tryd.prog) (s := 14) (i := 1) Tryd.underlying14 rfl na12
theorem fd18_0 : Fd Tryd.prog 18 0 0 := fd_mk (P := Tryd.prog) (s := 18) (i := 0) Tryd.underlying18 rfl inf17 (by decide)
theorem fv18_0 : Fv Tryd.prog 18 0 0 := fv_mk (P := Tryd.prog) (s := 18) (i := 0) Tryd.underlying18 rfl na17
theorem fd19_0 : Fd Tryd.prog 19 0 0 := fd_mk (P := Tryd.prog) (s := 19) (i := 0) Tryd.underlying19 rfl inf17 (by decide)
theorem fv19_0 : Fv Tryd.prog 19 0 0 := fv_mk (P := Tryd.prog) (s := 19) (i := 0) Tryd.underlying19 rfl na17
theorem fd35_0 : Fd Tryd.prog 35 0 0 := fd_mk (P := Tryd.prog) (s := 35) (i := 0) Tryd.underlying35 rfl inf3 (by decide)
theorem fv35_0 : Fv Tryd.prog 35 0 0 := fv_mk (P := Tryd.prog) (s := 35) (i := 0) Tryd.underlying35 rfl na3
theorem fd35_1 : Fd Tryd.prog 35 1 1 := fd_mk (P := Tryd.prog) (s := 35) (i := 1) Tryd.underlying35 rfl inf3 (by decide)
theorem fv35_1 : Fv Tryd.prog 35 1 1 := fv_mk (P := Tryd.prog) (s := 35) (i := 1) Tryd.underlying35 rfl na3
theorem fd35_2 : Fd Tryd.prog 35 2 2 := fd_mk (P := Tryd.prog) (s := 35) (i := 2) Tryd.underlying35 rfl inf3 (by decide)
theorem fv35_2 : Fv Tryd.prog 35 2 2 := fv_mk (P := Tryd.prog) (s := 35) (i := 2) Tryd.underlying35 rfl na3
theorem fd35_3 : Fd Tryd.prog 35 3 3 := fd_mk (P := Tryd.prog) (s := 35) (i := 3) Tryd.underlying35 rfl inf3 (by decide)
theorem fv35_3 : Fv Tryd.prog 35 3 3 := fv_mk (P := Tryd.prog) (s := 35) (i := 3) Tryd.underlying35 rfl na3
theorem fd35_4 : Fd Tryd.prog 35 4 4 := fd_mk (P := Tryd.prog) (s := 35) (i := 4) Tryd.underlying35 rfl inf3 (by decide)
theorem fv35_4 : Fv Tryd.prog 35 4 4 := fv_mk (P := Tryd.prog) (s := 35) (i := 4) Tryd.underlying35 rfl na3
theorem fd36_0 : Fd Tryd.prog 36 0 0 := fd_mk (P := Tryd.prog) (s := 36) (i := 0) Tryd.underlying36 rfl inf3 (by decide)
theorem fv36_0 : Fv Tryd.prog 36 0 0 := fv_mk (P := Tryd.prog) (s := 36) (i := 0) Tryd.underlying36 rfl na3
theorem fd36_1 : Fd Tryd.prog 36 1 1 := fd_mk (P := Tryd.prog) (s := 36) (i := 1) Tryd.underlying36 rfl inf3 (by decide)
theorem fv36_1 : Fv Tryd.prog 36 1 1 := fv_mk (P := Tryd.prog) (s := 36) (i := 1) Tryd.underlying36 rfl na3
theorem fd36_2 : Fd Tryd.prog 36 2 2 := fd_mk (P := Tryd.prog) (s := 36) (i := 2) Tryd.underlying36 rfl inf3 (by decide)
theorem fv36_2 : Fv Tryd.prog 36 2 2 := fv_mk (P := Tryd.prog) (s := 36) (i := 2) Tryd.underlying36 rfl na3
theorem fd36_3 : Fd Tryd.prog 36 3 3 := fd_mk (P := Tryd.prog) (s := 36) (i := 3) Tryd.underlying36 rfl inf3 (by decide)
theorem fv36_3 : Fv Tryd.prog 36 3 3 := fv_mk (P := Tryd.prog) (s := 36) (i := 3) Tryd.underlying36 rfl na3
theorem fd36_4 : Fd Tryd.prog 36 4 4 := fd_mk (P := Tryd.prog) (s := 36) (i := 4) Tryd.underlying36 rfl inf3 (by decide)
theorem fv36_4 : Fv Tryd.prog 36 4 4 := fv_mk (P := Tryd.prog) (s := 36) (i := 4) Tryd.underlying36 rfl na3
theorem fd37_0 : Fd Tryd.prog 37 0 0 := fd_mk (P := Tryd.prog) (s := 37) (i := 0) Tryd.underlying37 rfl inf3 (by decide)
theorem fv37_0 : Fv Tryd.prog 37 0 0 := fv_mk (P := Tryd.prog) (s := 37) (i := 0) Tryd.underlying37 rfl na3
theorem fd37_1 : Fd Tryd.prog 37 1 1 := fd_mk (P := Tryd.prog) (s := 37) (i := 1) Tryd.underlying37 rfl inf3 (by decide)
theorem fv37_1 : Fv Tryd.prog 37 1 1 := fv_mk (P := Tryd.prog) (s := 37) (i := 1) Tryd.underlying37 rfl na3
theorem fd37_2 : Fd Tryd.prog 37 2 2 := fd_mk (P := Tryd.prog) (s := 37) (i := 2) Tryd.underlying37 rfl inf3 (by decide)
theorem fv37_2 : Fv Tryd.prog 37 2 2 := fv_mk (P := Tryd.prog) (s := 37) (i := 2) Tryd.underlying37 rfl na3
theorem fd37_3 : Fd Tryd.prog 37 3 3 := fd_mk (P := Tryd.prog) (s := 37) (i := 3) Tryd.underlying37 rfl inf3 (by decide)
theorem fv37_3 : Fv Tryd.prog 37 3 3 := fv_mk (P := Tryd.prog) (s := 37) (i := 3) Tryd.underlying37 rfl na3
theorem fd37_4 : Fd Tryd.prog 37 4 4 := fd_mk (P := Tryd.prog) (s := 37) (i := 4) Tryd.underlying37 rfl inf36 (by decide)
theorem fs37_4 : Fs Tryd.prog 37 4 4 5 := fs_mk (P := Tryd.prog) (s := 37) (i := 4) Tryd.underlying37 rfl ag36
theorem fd37_5 : Fd Tryd.prog 37 5 9 := fd_mk (P := Tryd.prog) (s := 37) (i := 5) Tryd.underlying37 rfl inf9 (by decide)
theorem fv37_5 : Fv Tryd.prog 37 5 9 := fv_mk (P := Tryd.prog) (s := 37) (i := 5) Tryd.underlying37 rfl na9
theorem fd38_0 : Fd Tryd.prog 38 0 0 := fd_mk (P := Tryd.prog) (s := 38) (i := 0) Tryd.underlying38 rfl inf3 (by decide)
theorem fv38_0 : Fv Tryd.prog 38 0 0 := fv_mk (P := Tryd.prog) (s := 38) (i := 0) Tryd.underlying38 rfl na3
theorem fd38_1 : Fd Tryd.prog 38 1 1 := fd_mk (P := Tryd.prog) (s := 38) (i := 1) Tryd.underlying38 rfl inf3 (by decide)
theorem fv38_1 : Fv Tryd.prog 38 1 1 := fv_mk (P := Tryd.prog) (s := 38) (i := 1) Tryd.underlying38 rfl na3
theorem fd38_2 : Fd Tryd.prog 38 2 2 := fd_mk (P := Tryd.prog) (s := 38) (i := 2) Tryd.underlying38 rfl inf3 (by decide)
theorem fv38_2 : Fv Tryd.prog 38 2 2 := fv_mk (P := Tryd.prog) (s := 38) (i := 2) Tryd.underlying38 rfl na3
theorem fd38_3 : Fd Tryd.prog 38 3 3 := fd_mk (P := Tryd.prog) (s := 38) (i := 3) Tryd.underlying38 rfl inf3 (by decide)
theorem fv38_3 : Fv Tryd.prog 38 3 3 := fv_mk (P := Tryd.prog) (s := 38) (i := 3) Tryd.underlying38 rfl na3
theorem fd38_4 : Fd Tryd.prog 38 4 4 := fd_mk (P := Tryd.prog) (s := 38) (i := 4) Tryd.underlying38 rfl inf36 (by decide)
theorem fs38_4 : Fs Tryd.prog 38 4 4 5 := fs_mk (P := Tryd.prog) (s := 38) (i := 4) Tryd.underlying38 rfl ag36
theorem fd38_5 : Fd Tryd.prog 38 5 9 := fd_mk (P := Tryd.prog) (s := 38) (i := 5) Tryd.underlying38 rfl inf9 (by decide)
theorem fv38_5 : Fv Tryd.prog 38 5 9 := fv_mk (P := Tryd.prog) (s := 38) (i := 5) Tryd.underlying38 rfl na9
theorem fd52_0 : Fd Tryd.prog 52 0 0 := fd_mk (P := Tryd.prog) (s := 52) (i := 0) Tryd.underlying52 rfl inf3 (by decide)
theorem fv52_0 : Fv Tryd.prog 52 0 0 := fv_mk (P := Tryd.prog) (s := 52) (i := 0) Tryd.underlying52 rfl na3
theorem fd52_1 : Fd Tryd.prog 52 1 1 := fd_mk (P := Tryd.prog) (s := 52) (i := 1) Tryd.underlying52 rfl inf9 (by decide)
theorem fv52_1 : Fv Tryd.prog 52 1 1 := fv_mk (P := Tryd.prog) (s := 52) (i := 1) Tryd.underlying52 rfl na9
theorem fd52_2 : Fd Tryd.prog 52 2 2 := fd_mk (P := Tryd.prog) (s := 52) (i := 2) Tryd.underlying52 rfl inf9 (by decide)
theorem fv52_2 : Fv Tryd.prog 52 2 2 := fv_mk (P := Tryd.prog) (s := 52) (i := 2) Tryd.underlying52 rfl na9
theorem fd52_3 : Fd Tryd.prog 52 3 3 := fd_mk (P := Tryd.prog) (s := 52) (i := 3) Tryd.underlying52 rfl inf51 (by decide)
theorem fv52_3 : Fv Tryd.prog 52 3 3 := fv_mk (P := Tryd.prog) (s := 52) (i := 3) Tryd.underlying52 rfl na51
theorem fd52_4 : Fd Tryd.prog 52 4 4 := fd_mk (P := Tryd.prog) (s := 52) (i := 4) Tryd.underlying52 rfl inf36 (by decide)
theorem fs52_4 : Fs Tryd.prog 52 4 4 5 := fs_mk (P := Tryd.prog) (s := 52) (i := 4) Tryd.underlying52 rfl ag36
theorem fd53_0 : Fd Tryd.prog 53 0 0 := fd_mk (P := Tryd.prog) (s := 53) (i := 0) Tryd.underlying53 rfl inf3 (by decide)
theorem fv53_0 : Fv Tryd.prog 53 0 0 := fv_mk (P := Tryd.prog) (s := 53) (i := 0) Tryd.underlying53 rfl na3
theorem fd53_1 : Fd Tryd.prog 53 1 1 := fd_mk (P := Tryd.prog) (s := 53) (i := 1) Tryd.underlying53 rfl inf9 (by decide)
theorem fv53_1 : Fv Tryd.prog 53 1 1 := fv_mk (P := Tryd.prog) (s := 53) (i := 1) Tryd.underlying53 rfl na9
theorem fd53_2 : Fd Tryd.prog 53 2 2 := fd_mk (P := Tryd.prog) (s := 53) (i := 2) Tryd.underlying53 rfl inf9 (by decide)
theorem fv53_2 : Fv Tryd.prog 53 2 2 := fv_mk (P := Tryd.prog) (s := 53) (i := 2) Tryd.underlying53 rfl na9
theorem fd53_3 : Fd Tryd.prog 53 3 3 := fd_mk (P := Tryd.prog) (s := 53) (i := 3) Tryd.underlying53 rfl inf51 (by decide)
theorem fv53_3 : Fv Tryd.prog 53 3 3 := fv_mk (P := Tryd.prog) (s := 53) (i := 3) Tryd.underlying53 rfl na51
theorem fd53_4 : Fd Tryd.prog 53 4 4 := fd_mk (P := Tryd.prog) (s := 53) (i := 4) Tryd.underlying53 rfl inf36 (by decide)
theorem fs53_4 : Fs Tryd.prog 53 4 4 5 := fs_mk (P := Tryd.prog) (s := 53) (i := 4) Tryd.underlying53 rfl ag36
theorem fd56_0 : Fd Tryd.prog 56 0 0 := fd_mk (P := Tryd.prog) (s := 56) (i := 0) Tryd.underlying56 rfl inf30 (by decide)
theorem fv56_0 : Fv Tryd.prog 56 0 0 := fv_mk (P := Tryd.prog) (s := 56) (i := 0) Tryd.underlying56 rfl na30
theorem fd56_1 : Fd Tryd.prog 56 1 1 := fd_mk (P := Tryd.prog) (s := 56) (i := 1) Tryd.underlying56 rfl inf9 (by decide)
theorem fv56_1 : Fv Tryd.prog 56 1 1 := fv_mk (P := Tryd.prog) (s := 56) (i := 1) Tryd.underlying56 rfl na9
theorem fd56_2 : Fd Tryd.prog 56 2 2 := fd_mk (P := Tryd.prog) (s := 56) (i := 2) Tryd.underlying56 rfl inf47 (by decide)
theorem fv56_2 : Fv Tryd.prog 56 2 2 := fv_mk (P := Tryd.prog) (s := 56) (i := 2) Tryd.underlying56 rfl na47
theorem fd56_3 : Fd Tryd.prog 56 3 3 := fd_mk (P := Tryd.prog) (s := 56) (i := 3) Tryd.underlying56 rfl inf3 (by decide)
theorem fv56_3 : Fv Tryd.prog 56 3 3 := fv_mk (P := Tryd.prog) (s := 56) (i := 3) Tryd.underlying56 rfl na3
theorem fd57_0 : Fd Tryd.prog 57 0 0 := fd_mk (P := Tryd.prog) (s := 57) (i := 0) Tryd.underlying57 rfl inf30 (by decide)
theorem fv57_0 : Fv Tryd.prog 57 0 0 := fv_mk (P := Tryd.prog) (s := 57) (i := 0) Tryd.underlying57 rfl na30
theorem fd57_1 : Fd Tryd.prog 57 1 1 := fd_mk (P := Tryd.prog) (s := 57) (i := 1) Tryd.underlying57 rfl inf9 (by decide)
theorem fv57_1 : Fv Tryd.prog 57 1 1 := fv_mk (P := Tryd.prog) (s := 57) (i := 1) Tryd.underlying57 rfl na9
theorem fd57_2 : Fd Tryd.prog 57 2 2 := fd_mk (P := Tryd.prog) (s := 57) (i := 2) Tryd.underlying57 rfl inf47 (by decide)
theorem fv57_2 : Fv Tryd.prog 57 2 2 := fv_mk (P := Tryd.prog) (s := 57) (i := 2) Tryd.underlying57 rfl na47
theorem fd57_3 : Fd Tryd.prog 57 3 3 := fd_mk (P := Tryd.prog) (s := 57) (i := 3) Tryd.underlying57 rfl inf3 (by decide)
theorem fv57_3 : Fv Tryd.prog 57 3 3 := fv_mk (P := Tryd.prog) (s := 57) (i := 3) Tryd.underlying57 rfl na3
theorem fd64_0 : Fd Tryd.prog 64 0 0 := fd_mk (P := Tryd.prog) (s := 64) (i := 0) Tryd.underlying64 rfl inf60 (by decide)
theorem fv64_0 : Fv Tryd.prog 64 0 0 := fv_mk (P := Tryd.prog) (s := 64) (i := 0) Tryd.underlying64 rfl na60
theorem fd64_1 : Fd Tryd.prog 64 1 1 := fd_mk (P := Tryd.prog) (s := 64) (i := 1) Tryd.underlying64 rfl inf3 (by decide)
theorem fv64_1 : Fv Tryd.prog 64 1 1 := fv_mk (P := Tryd.prog) (s := 64) (i := 1) Tryd.underlying64 rfl na3
theorem fd65_0 : Fd Tryd.prog 65 0 0 := fd_mk (P := Tryd.prog) (s := 65) (i := 0) Tryd.underlying65 rfl inf60 (by decide)
theorem fv65_0 : Fv Tryd.prog 65 0 0 := fv_mk (P := Tryd.prog) (s := 65) (i := 0) Tryd.underlying65 rfl na60
theorem fd65_1 : Fd Tryd.prog 65 1 1 := fd_mk (P := Tryd.prog) (s := 65) (i := 1) Tryd.underlying65 rfl inf3 (by decide)
theorem fv65_1 : Fv Tryd.prog 65 1 1 := fv_mk (P := Tryd.prog) (s := 65) (i := 1) Tryd.underlying65 rfl na3
theorem fd67_0 : Fd Tryd.prog 67 0 0 := fd_mk (P := Tryd.prog) (s := 67) (i := 0) Tryd.underlying67 rfl inf38 (by decide)
theorem fs67_0 : Fs Tryd.prog 67 0 0 10 := fs_mk (P := Tryd.prog) (s := 67) (i := 0) Tryd.underlying67 rfl ag38
theorem fd67_1 : Fd Tryd.prog 67 1 10 := fd_mk (P := Tryd.prog) (s := 67) (i := 1) Tryd.underlying67 rfl inf51 (by decide)
theorem fv67_1 : Fv Tryd.prog 67 1 10 := fv_mk (P := Tryd.prog) (s := 67) (i := 1) Tryd.underlying67 rfl na51
theorem fd67_2 : Fd Tryd.prog 67 2 11 := fd_mk (P := Tryd.prog) (s := 67) (i := 2) Tryd.underlying67 rfl inf66 (by decide)
theorem fv67_2 : Fv Tryd.prog 67 2 11 := fv_mk (P := Tryd.prog) (s := 67) (i := 2) Tryd.underlying67 rfl na66
theorem fd68_0 : Fd Tryd.prog 68 0 0 := fd_mk (P := Tryd.prog) (s := 68) (i := 0) Tryd.underlying68 rfl inf38 (by decide)
theorem fs68_0 : Fs Tryd.prog 68 0 0 10 := fs_mk (P := Tryd.prog) (s := 68) (i := 0) Tryd.underlying68 rfl ag38
theorem fd68_1 : Fd Tryd.prog 68 1 10 := fd_mk (P := Tryd.prog) (s := 68) (i := 1) Tryd.underlying68 rfl inf51 (by decide)
theorem fv68_1 : Fv Tryd.prog 68 1 10 := fv_mk (P := Tryd.prog) (s := 68) (i := 1) Tryd.underlying68 rfl na51
theorem fd68_2 : Fd Tryd.prog 68 2 11 := fd_mk (P := Tryd.prog) (s := 68) (i := 2) Tryd.underlying68 rfl inf66 (by decide)
theorem fv68_2 : Fv Tryd.prog 68 2 11 := fv_mk (P := Tryd.prog) (s := 68) (i := 2) Tryd.underlying68 rfl na66
theorem fd93_0 : Fd Tryd.prog 93 0 0 := fd_mk (P := Tryd.prog) (s := 93) (i := 0) Tryd.underlying93 rfl inf5 (by decide)
theorem fv93_0 : Fv Tryd.prog 93 0 0 := fv_mk (P := Tryd.prog) (s := 93) (i := 0) Tryd.underlying93 rfl na5
theorem fd93_1 : Fd Tryd.prog 93 1 1 := fd_mk (P := Tryd.prog) (s := 93) (i := 1) Tryd.underlying93 rfl inf5 (by decide)
theorem fv93_1 : Fv Tryd.prog 93 1 1 := fv_mk (P := Tryd.prog) (s := 93) (i := 1) Tryd.underlying93 rfl na5
theorem fd94_0 : Fd Tryd.prog 94 0 0 := fd_mk (P := Tryd.prog) (s := 94) (i := 0) Tryd.underlying94 rfl inf5 (by decide)
theorem fv94_0 : Fv Tryd.prog 94 0 0 := fv_mk (P := Tryd.prog) (s := 94) (i := 0) Tryd.underlying94 rfl na5
theorem fd94_1 : Fd Tryd.prog 94 1 1 := fd_mk (P := Tryd.prog) (s := 94) (i := 1) Tryd.underlying94 rfl inf5 (by decide)
theorem fv94_1 : Fv Tryd.prog 94 1 1 := fv_mk (P := Tryd.prog) (s := 94) (i := 1) Tryd.underlying94 rfl na5
theorem fd123_0 : Fd Tryd.prog 123 0 0 := fd_mk (P := Tryd.prog) (s := 123) (i := 0) Tryd.underlying123 rfl inf17 (by decide)
theorem fv123_0 : Fv Tryd.prog 123 0 0 := fv_mk (P := Tryd.prog) (s := 123) (i := 0) Tryd.underlying123 rfl na17
theorem fd123_1 : Fd Tryd.prog 123 1 1 := fd_mk (P := Tryd.prog) (s := 123) (i := 1) Tryd.underlying123 rfl inf17 (by decide)
theorem fv123_1 : Fv Tryd.prog 123 1 1 := fv_mk (P := Tryd.prog) (s := 123) (i := 1) Tryd.underlying123 rfl na17
theorem fd123_2 : Fd Tryd.prog 123 2 2 := fd_mk (P := Tryd.prog) (s := 123) (i := 2) Tryd.underlying123 rfl inf17 (by decide)
theorem fv123_2 : Fv Tryd.prog 123 2 2 := fv_mk (P := Tryd.prog) (s := 123) (i := 2) Tryd.underlying123 rfl na17
theorem fd123_3 : Fd Tryd.prog 123 3 3 := fd_mk (P := Tryd.prog) (s := 123) (i := 3) Tryd.underlying123 rfl inf9 (by decide)
theorem fv123_3 : Fv Tryd.prog 123 3 3 := fv_mk (P := Tryd.prog) (s := 123) (i := 3) Tryd.underlying123 rfl na9
theorem fd124_0 : Fd Tryd.prog 124 0 0 := fd_mk (P := Tryd.prog) (s := 124) (i := 0) Tryd.underlying124 rfl inf17 (by decide)
theorem fv124_0 : Fv Tryd.prog 124 0 0 := fv_mk (P := Tryd.prog) (s := 124) (i := 0) Tryd.underlying124 rfl na17
theorem fd124_1 : Fd Tryd.prog 124 1 1 := fd_mk (P := Tryd.prog) (s := 124) (i := 1) Tryd.underlying124 rfl inf17 (by decide)
theorem fv124_1 : Fv Tryd.prog 124 1 1 := fv_mk (P := Tryd.prog) (s := 124) (i := 1) Tryd.underlying124 rfl na17
theorem fd124_2 : Fd Tryd.prog 124 2 2 := fd_mk (P := Tryd.prog) (s := 124) (i := 2) Tryd.underlying124 rfl inf17 (by decide)
theorem fv124_2 : Fv Tryd.prog 124 2 2 := fv_mk (P := Tryd.prog) (s := 124) (i := 2) Tryd.underlying124 rfl na17
theorem fd124_3 : Fd Tryd.prog 124 3 3 := fd_mk (P := Tryd.prog) (s := 124) (i := 3) Tryd.underlying124 rfl inf9 (by decide)
theorem fv124_3 : Fv Tryd.prog 124 3 3 := fv_mk (P := Tryd.prog) (s := 124) (i := 3) Tryd.underlying124 rfl na9
theorem fd135_0 : Fd Tryd.prog 135 0 0 := fd_mk (P := Tryd.prog) (s := 135) (i := 0) Tryd.underlying135 rfl inf12 (by decide)
theorem fv135_0 : Fv Tryd.prog 135 0 0 := fv_mk (P := Tryd.prog) (s := 135) (i := 0) Tryd.underlying135 rfl na12
theorem fd135_1 : Fd Tryd.prog 135 1 1 := fd_mk (P := Tryd.prog) (s := 135) (i := 1) Tryd.underlying135 rfl inf12 (by decide)
theorem fv135_1 : Fv Tryd.prog 135 1 1 := fv_mk (P := Tryd.prog) (s := 135) (i := 1) Tryd.underlying135 rfl na12
theorem fd135_2 : Fd Tryd.prog 135 2 2 := fd_mk (P := Tryd.prog) (s := 135) (i := 2) Tryd.underlying135 rfl inf96 (by decide)
theorem fv135_2 : Fv Tryd.prog 135 2 2 := fv_mk (P := Tryd.prog) (s := 135) (i := 2) Tryd.underlying135 rfl na96
theorem fd135_3 : Fd Tryd.prog 135 3 3 := fd_mk (P := Tryd.prog) (s := 135) (i := 3) Tryd.underlying135 rfl inf129 (by decide)
theorem fv135_3 : Fv Tryd.prog 135 3 3 := fv_mk (P := Tryd.prog) (s := 135) (i := 3) Tryd.underlying135 rfl na129
theorem fd135_4 : Fd Tryd.prog 135 4 4 := fd_mk (P := Tryd.prog) (s := 135) (i := 4) Tryd.underlying135 rfl inf5 (by decide)
theorem fv135_4 : Fv Tryd.prog 135 4 4 := fv_mk (P := Tryd.prog) (s := 135) (i := 4) Tryd.underlying135 rfl na5
theorem fd135_5 : Fd Tryd.prog 135 5 5 := fd_mk (P := Tryd.prog) (s := 135) (i := 5) Tryd.underlying135 rfl inf5 (by decide)
theorem fv135_5 : Fv Tryd.prog 135 5 5 := fv_mk (P := Tryd.prog) (s := 135) (i := 5) Tryd.underlying135 rfl na5
theorem fd135_6 : Fd Tryd.prog 135 6 6 := fd_mk (P := Tryd.prog) (s := 135) (i := 6) Tryd.underlying135 rfl inf130 (by decide)
theorem fv135_6 : Fv Tryd.prog 135 6 6 := fv_mk (P := Tryd.prog) (s := 135) (i := 6) Tryd.underlying135 rfl na130
theorem fd135_7 : Fd Tryd.prog 135 7 7 := fd_mk (P := Tryd.prog) (s := 135) (i := 7) Tryd.underlying135 rfl inf131 (by decide)
theorem fv135_7 : Fv Tryd.prog 135 7 7 := fv_mk (P := Tryd.prog) (s := 135) (i := 7) Tryd.underlying135 rfl na131
theorem fd135_8 : Fd Tryd.prog 135 8 8 := fd_mk (P := Tryd.prog) (s := 135) (i := 8) Tryd.underlying135 rfl inf132 (by decide)
theorem fv135_8 : Fv Tryd.prog 135 8 8 := fv_mk (P := Tryd.prog) (s := 135) (i := 8) Tryd.underlying135 rfl na132
theorem fd135_9 : Fd Tryd.prog 135 9 9 := fd_mk (P := Tryd.prog) (s := 135) (i := 9) Tryd.underlying135 rfl inf133 (by decide)
theorem fv135_9 : Fv Tryd.prog 135 9 9 := fv_mk (P := Tryd.prog) (s := 135) (i := 9) Tryd.underlying135 rfl na133
theorem fd135_10 : Fd Tryd.prog 135 10 10 := fd_mk (P := Tryd.prog) (s := 135) (i := 10) Tryd.underlying135 rfl inf134 (by decide)
theorem fv135_10 : Fv Tryd.prog 135 10 10 := fv_mk (P := Tryd.prog) (s := 135) (i := 10) Tryd.underlying135 rfl na134
theorem fd136_0 : Fd Tryd.prog 136 0 0 := fd_mk (P := Tryd.prog) (s := 136) (i := 0) Tryd.underlying136 rfl inf12 (by decide)
theorem fv136_0 : Fv Tryd.prog 136 0 0 := fv_mk (P := Tryd.prog) (s := 136) (i := 0) Tryd.underlying136 rfl na12
theorem fd136_1 : Fd Tryd.prog 136 1 1 := fd_mk (P := Tryd.prog) (s := 136) (i := 1) Tryd.underlying136 rfl inf12 (by decide)
theorem fv136_1 : Fv Tryd.prog 136 1 1 := fv_mk (P := Tryd.prog) (s := 136) (i := 1) Tryd.underlying136 rfl na12
theorem fd136_2 : Fd Tryd.prog 136 2 2 := fd_mk (P := Tryd.prog) (s := 136) (i := 2) Tryd.underlying136 rfl inf96 (by decide)
theorem fv136_2 : Fv Tryd.prog 136 2 2 := fv_mk (P := Tryd.prog) (s := 136) (i := 2) Tryd.underlying136 rfl na96
theorem fd136_3 : Fd Tryd.prog 136 3 3 := fd_mk (P := Tryd.prog) (s := 136) (i := 3) Tryd.underlying136 rfl inf129 (by decide)
theorem fv136_3 : Fv Tryd.prog 136 3 3 := fv_mk (P := Tryd.prog) (s := 136) (i := 3) Tryd.underlying136 rfl na129
theorem fd136_4 : Fd Tryd.prog 136 4 4 := fd_mk (P := Tryd.prog) (s := 136) (i := 4) Tryd.underlying136 rfl inf5 (by decide)
theorem fv136_4 : Fv Tryd.prog 136 4 4 := fv_mk (P := Tryd.prog) (s := 136) (i := 4) Tryd.underlying136 rfl na5
theorem fd136_5 : Fd Tryd.prog 136 5 5 := fd_mk (P := Tryd.prog) (s := 136) (i := 5) Tryd.underlying136 rfl inf5 (by decide)
theorem fv136_5 : Fv Tryd.prog 136 5 5 := fv_mk (P := Tryd.prog) (s := 136) (i := 5) Tryd.underlying136 rfl na5
theorem fd136_6 : Fd Tryd.prog 136 6 6 := fd_mk (P := Tryd.prog) (s := 136) (i := 6) Tryd.underlying136 rfl inf130 (by decide)
theorem fv136_6 : Fv Tryd.prog 136 6 6 := fv_mk (P := Tryd.prog) (s := 136) (i := 6) Tryd.underlying136 rfl na130
theorem fd136_7 : Fd Tryd.prog 136 7 7 := fd_mk (P := Tryd.prog) (s := 136) (i := 7) Tryd.underlying136 rfl inf131 (by decide)
theorem fv136_7 : Fv Tryd.prog 136 7 7 := fv_mk (P := Tryd.prog) (s := 136) (i := 7) Tryd.underlying136 rfl na131
theorem fd136_8 : Fd Tryd.prog 136 8 8 := fd_mk (P := Tryd.prog) (s := 136) (i := 8) Tryd.underlying136 rfl inf132 (by decide)
theorem fv136_8 : Fv Tryd.prog 136 8 8 := fv_mk (P := Tryd.prog) (s := 136) (i := 8) Tryd.underlying136 rfl na132
theorem fd136_9 : Fd Tryd.prog 136 9 9 := fd_mk (P := Tryd.prog) (s := 136) (i := 9) Tryd.underlying136 rfl inf133 (by decide)
theorem fv136_9 : Fv Tryd.prog 136 9 9 := fv_mk (P := Tryd.prog) (s := 136) (i := 9) Tryd.underlying136 rfl na133
theorem fd136_10 : Fd Tryd.prog 136 10 10 := fd_mk (P := Tryd.prog) (s := 136) (i := 10) Tryd.underlying136 rfl inf134 (by decide)
theorem fv136_10 : Fv Tryd.prog 136 10 10 := fv_mk (P := Tryd.prog) (s := 136) (i := 10) Tryd.underlying136 rfl na134
attribute [instance] fd7_0 fv7_0 fd7_1 fv7_1 fd7_2 fv7_2 fd7_3 fv7_3 fd8_0 fv8_0 fd8_1 fv8_1 fd8_2 fv8_2 fd8_3 fv8_3 fd13_0 fv13_0 fd13_1 fv13_1 fd14_0 fv14_0 fd14_1 fv14_1 fd18_0 fv18_0 fd19_0 fv19_0 fd35_0 fv35_0 fd35_1 fv35_1 fd35_2 fv35_2 fd35_3 fv35_3 fd35_4 fv35_4 fd36_0 fv36_0 fd36_1 fv36_1 fd36_2 fv36_2 fd36_3 fv36_3 fd36_4 fv36_4 fd37_0 fv37_0 fd37_1 fv37_1 fd37_2 fv37_2 fd37_3 fv37_3 fd37_4 fs37_4 fd37_5 fv37_5 fd38_0 fv38_0 fd38_1 fv38_1 fd38_2 fv38_2 fd38_3 fv38_3 fd38_4 fs38_4 fd38_5 fv38_5 fd52_0 fv52_0 fd52_1 fv52_1 fd52_2 fv52_2 fd52_3 fv52_3 fd52_4 fs52_4 fd53_0 fv53_0 fd53_1 fv53_1 fd53_2 fv53_2 fd53_3 fv53_3 fd53_4 fs53_4 fd56_0 fv56_0 fd56_1 fv56_1 fd56_2 fv56_2 fd56_3 fv56_3 fd57_0 fv57_0 fd57_1 fv57_1 fd57_2 fv57_2 fd57_3 fv57_3 fd64_0 fv64_0 fd64_1 fv64_1 fd65_0 fv65_0 fd65_1 fv65_1 fd67_0 fs67_0 fd67_1 fv67_1 fd67_2 fv67_2 fd68_0 fs68_0 fd68_1 fv68_1 fd68_2 fv68_2 fd93_0 fv93_0 fd93_1 fv93_1 fd94_0 fv94_0 fd94_1 fv94_1 fd123_0 fv123_0 fd123_1 fv123_1 fd123_2 fv123_2 fd123_3 fv123_3 fd124_0 fv124_0 fd124_1 fv124_1 fd124_2 fv124_2 fd124_3 fv124_3 fd135_0 fv135_0 fd135_1 fv135_1 fd135_2 fv135_2 fd135_3 fv135_3 fd135_4 fv135_4 fd135_5 fv135_5 fd135_6 fv135_6 fd135_7 fv135_7 fd135_8 fv135_8 fd135_9 fv135_9 fd135_10 fv135_10 fd136_0 fv136_0 fd136_1 fv136_1 fd136_2 fv136_2 fd136_3 fv136_3 fd136_4 fv136_4 fd136_5 fv136_5 fd136_6 fv136_6 fd136_7 fv136_7 fd136_8 fv136_8 fd136_9 fv136_9 fd136_10 fv136_10
end Tab
theorem cl2 : CallIn Tryd.prog 2 := Tryd.call2
theorem cl3 : CallIn Tryd.prog 3 := Tryd.call3
theorem cl4 : CallIn Tryd.prog 4 := Tryd.call4
theorem cl5 : CallIn Tryd.prog 5 := Tryd.call5
theorem cl6 : CallIn Tryd.prog 6 := Tryd.call6
theorem cl7 : CallIn Tryd.prog 7 := Tryd.call7
theorem cl8 : CallIn Tryd.prog 8 := Tryd.call8
theorem cl9 : CallIn Tryd.prog 9 := Tryd.call9
theorem cl10 : CallIn Tryd.prog 10 := Tryd.call10
theorem cl11 : CallIn Tryd.prog 11 := Tryd.call11
theorem cl12 : CallIn Tryd.prog 12 := Tryd.call12
theorem cl13 : CallIn Tryd.prog 13 := Tryd.call13
theorem cl14 : CallIn Tryd.prog 14 := Tryd.call14
theorem cl15 : CallIn Tryd.prog 15 := Tryd.call15
theorem cl16 : CallIn Tryd.prog 16 := Tryd.call16
theorem cl17 : CallIn Tryd.prog 17 := Tryd.call17
theorem cl18 : CallIn Tryd.prog 18 := Tryd.call18
theorem cl19 : CallIn Tryd.prog 19 := Tryd.call19
theorem cl20 : CallIn Tryd.prog 20 := Tryd.call20
theorem cl21 : CallIn Tryd.prog 21 := Tryd.call21
theorem cl22 : CallIn Tryd.prog 22 := Tryd.call22
theorem cl23 : CallIn Tryd.prog 23 := Tryd.call23
theorem cl24 : CallIn Tryd.prog 24 := Tryd.call24
theorem cl25 : CallIn Tryd.prog 25 := Tryd.call25
theorem cl26 : CallIn Tryd.prog 26 := Tryd.call26
theorem cl27 : CallIn Tryd.prog 27 := Tryd.call27
theorem cl28 : CallIn Tryd.prog 28 := Tryd.call28
theorem cl29 : CallIn Tryd.prog 29 := Tryd.call29
theorem cl30 : CallIn Tryd.prog 30 := Tryd.call30
theorem cl31 : CallIn Tryd.prog 31 := Tryd.call31
theorem cl32 : CallIn Tryd.prog 32 := Tryd.call32
theorem cl33 : CallIn Tryd.prog 33 := Tryd.call33
theorem cl34 : CallIn Tryd.prog 34 := Tryd.call34
theorem cl35 : CallIn Tryd.prog 35 := Tryd.call35
theorem cl36 : CallIn Tryd.prog 36 := Tryd.call36
theorem cl37 : CallIn Tryd.prog 37 := Tryd.call37
theorem cl38 : CallIn Tryd.prog 38 := Tryd.call38
theorem cl39 : CallIn Tryd.prog 39 := Tryd.call39
theorem cl40 : CallIn Tryd.prog 40 := Tryd.call40
theorem cl41 : CallIn Tryd.prog 41 := Tryd.call41
theorem cl42 : CallIn Tryd.prog 42 := Tryd.call42
theorem cl43 : CallIn Tryd.prog 43 := Tryd.call43
theorem cl44 : CallIn Tryd.prog 44 := Tryd.call44
theorem cl45 : CallIn Tryd.prog 45 := Tryd.call45
theorem cl46 : CallIn Tryd.prog 46 := Tryd.call46
theorem cl47 : CallIn Tryd.prog 47 := Tryd.call47
theorem cl48 : CallIn Tryd.prog 48 := Tryd.call48
theorem cl49 : CallIn Tryd.prog 49 := Tryd.call49
theorem cl50 : CallIn Tryd.prog 50 := Tryd.call50
theorem cl51 : CallIn Tryd.prog 51 := Tryd.call51
theorem cl52 : CallIn Tryd.prog 52 := Tryd.call52
theorem cl53 : CallIn Tryd.prog 53 := Tryd.call53
theorem cl54 : CallIn Tryd.prog 54 := Tryd.call54
theorem cl55 : CallIn Tryd.prog 55 := Tryd.call55
theorem cl56 : CallIn Tryd.prog 56 := Tryd.call56
theorem cl57 : CallIn Tryd.prog 57 := Tryd.call57
theorem cl58 : CallIn Tryd.prog 58 := Tryd.call58
theorem cl59 : CallIn Tryd.prog 59 := Tryd.call59
theorem cl60 : CallIn Tryd.prog 60 := Tryd.call60
theorem cl61 : CallIn Tryd.prog 61 := Tryd.call61
theorem cl62 : CallIn Tryd.prog 62 := Tryd.call62
theorem cl63 : CallIn Tryd.prog 63 := Tryd.call63
theorem cl64 : CallIn Tryd.prog 64 := Tryd.call64
theorem cl65 : CallIn Tryd.prog 65 := Tryd.call65
theorem cl66 : CallIn Tryd.prog 66 := Tryd.call66
theorem cl67 : CallIn Tryd.prog 67 := Tryd.call67
theorem cl68 : CallIn Tryd.prog 68 := Tryd.call68
theorem cl70 : CallIn Tryd.prog 70 := Tryd.call70
theorem cl72 : CallIn Tryd.prog 72 := Tryd.call72
theorem cl73 : CallIn Tryd.prog 73 := Tryd.call73
theorem cl74 : CallIn Tryd.prog 74 := Tryd.call74
theorem cl75 : CallIn Tryd.prog 75 := Tryd.call75
theorem cl77 : CallIn Tryd.prog 77 := Tryd.call77
theorem cl78 : CallIn Tryd.prog 78 := Tryd.call78
theorem cl79 : CallIn Tryd.prog 79 := Tryd.call79
theorem cl80 : CallIn Tryd.prog 80 := Tryd.call80
theorem cl81 : CallIn Tryd.prog 81 := Tryd.call81
theorem cl82 : CallIn Tryd.prog 82 := Tryd.call82
theorem cl83 : CallIn Tryd.prog 83 := Tryd.call83
theorem cl84 : CallIn Tryd.prog 84 := Tryd.call84
theorem cl85 : CallIn Tryd.prog 85 := Tryd.call85
theorem cl86 : CallIn Tryd.prog 86 := Tryd.call86
theorem cl87 : CallIn Tryd.prog 87 := Tryd.call87
theorem cl88 : CallIn Tryd.prog 88 := Tryd.call88
theorem cl89 : CallIn Tryd.prog 89 := Tryd.call89
theorem cl90 : CallIn Tryd.prog 90 := Tryd.call90
theorem cl91 : CallIn Tryd.prog 91 := Tryd.call91
theorem cl92 : CallIn Tryd.prog 92 := Tryd.call92
theorem cl93 : CallIn Tryd.prog 93 := Tryd.call93
theorem cl94 : CallIn Tryd.prog 94 := Tryd.call94
theorem cl95 : CallIn Tryd.prog 95 := Tryd.call95
theorem cl96 : CallIn Tryd.prog 96 := Tryd.call96
theorem cl97 : CallIn Tryd.prog 97 := Tryd.call97
theorem cl98 : CallIn Tryd.prog 98 := Tryd.call98
theorem cl99 : CallIn Tryd.prog 99 := Tryd.call99
theorem cl100 : CallIn Tryd.prog 100 := Tryd.call100
theorem cl101 : CallIn Tryd.prog 101 := Tryd.call101
theorem cl102 : CallIn Tryd.prog 102 := Tryd.call102
theorem cl125 : CallIn Tryd.prog 125 := Tryd.call125
theorem mixed : Tryd.prog.follows .mixedOrders = true := by kernel_rfl
end Go.Proofs.YtmgheamdboiklaaDoor
