/- The seat's functions, by number. -/
import Derived.Test.YtiibidadpgknjaaEnv
import Derived.Test.YtiibidadpgknjaaLim
namespace Go.Proofs.Ytiibidadpgknjaa.Fi
open Go
theorem E0_P : E0.P = Go.Proofs.Try.prog := rfl
theorem F2 : E0.P.funcs[2]? = some Go.Proofs.Try.f2 := by rw [E0_P]; exact Go.Proofs.Try.func2
theorem B2 : Go.Proofs.Try.f2.body = some (bodyOf Go.Proofs.Try.f2) := rfl
theorem F3 : E0.P.funcs[3]? = some Go.Proofs.Try.f3 := by rw [E0_P]; exact Go.Proofs.Try.func3
theorem B3 : Go.Proofs.Try.f3.body = some (bodyOf Go.Proofs.Try.f3) := rfl
theorem F4 : E0.P.funcs[4]? = some Go.Proofs.Try.f4 := by rw [E0_P]; exact Go.Proofs.Try.func4
theorem B4 : Go.Proofs.Try.f4.body = some (bodyOf Go.Proofs.Try.f4) := rfl
theorem F5 : E0.P.funcs[5]? = some Go.Proofs.Try.f5 := by rw [E0_P]; exact Go.Proofs.Try.func5
theorem B5 : Go.Proofs.Try.f5.body = some (bodyOf Go.Proofs.Try.f5) := rfl
theorem F6 : E0.P.funcs[6]? = some Go.Proofs.Try.f6 := by rw [E0_P]; exact Go.Proofs.Try.func6
theorem B6 : Go.Proofs.Try.f6.body = some (bodyOf Go.Proofs.Try.f6) := rfl
theorem F7 : E0.P.funcs[7]? = some Go.Proofs.Try.f7 := by rw [E0_P]; exact Go.Proofs.Try.func7
theorem B7 : Go.Proofs.Try.f7.body = some (bodyOf Go.Proofs.Try.f7) := rfl
theorem F8 : E0.P.funcs[8]? = some Go.Proofs.Try.f8 := by rw [E0_P]; exact Go.Proofs.Try.func8
theorem B8 : Go.Proofs.Try.f8.body = some (bodyOf Go.Proofs.Try.f8) := rfl
theorem F9 : E0.P.funcs[9]? = some Go.Proofs.Try.f9 := by rw [E0_P]; exact Go.Proofs.Try.func9
theorem B9 : Go.Proofs.Try.f9.body = some (bodyOf Go.Proofs.Try.f9) := rfl
theorem F10 : E0.P.funcs[10]? = some Go.Proofs.Try.f10 := by rw [E0_P]; exact Go.Proofs.Try.func10
theorem B10 : Go.Proofs.Try.f10.body = some (bodyOf Go.Proofs.Try.f10) := rfl
theorem F11 : E0.P.funcs[11]? = some Go.Proofs.Try.f11 := by rw [E0_P]; exact Go.Proofs.Try.func11
theorem B11 : Go.Proofs.Try.f11.body = some (bodyOf Go.Proofs.Try.f11) := rfl
theorem F12 : E0.P.funcs[12]? = some Go.Proofs.Try.f12 := by rw [E0_P]; exact Go.Proofs.Try.func12
theorem B12 : Go.Proofs.Try.f12.body = some (bodyOf Go.Proofs.Try.f12) := rfl
theorem F13 : E0.P.funcs[13]? = some Go.Proofs.Try.f13 := by rw [E0_P]; exact Go.Proofs.Try.func13
theorem B13 : Go.Proofs.Try.f13.body = some (bodyOf Go.Proofs.Try.f13) := rfl
theorem F14 : E0.P.funcs[14]? = some Go.Proofs.Try.f14 := by rw [E0_P]; exact Go.Proofs.Try.func14
theorem B14 : Go.Proofs.Try.f14.body = some (bodyOf Go.Proofs.Try.f14) := rfl
theorem F15 : E0.P.funcs[15]? = some Go.Proofs.Try.f15 := by rw [E0_P]; exact Go.Proofs.Try.func15
theorem B15 : Go.Proofs.Try.f15.body = some (bodyOf Go.Proofs.Try.f15) := rfl
theorem F16 : E0.P.funcs[16]? = some Go.Proofs.Try.f16 := by rw [E0_P]; exact Go.Proofs.Try.func16
theorem B16 : Go.Proofs.Try.f16.body = some (bodyOf Go.Proofs.Try.f16) := rfl
theorem F17 : E0.P.funcs[17]? = some Go.Proofs.Try.f17 := by rw [E0_P]; exact Go.Proofs.Try.func17
theorem B17 : Go.Proofs.Try.f17.body = some (bodyOf Go.Proofs.Try.f17) := rfl
theorem F18 : E0.P.funcs[18]? = some Go.Proofs.Try.f18 := by rw [E0_P]; exact Go.Proofs.Try.func18
theorem B18 : Go.Proofs.Try.f18.body = some (bodyOf Go.Proofs.Try.f18) := rfl
theorem F19 : E0.P.funcs[19]? = some Go.Proofs.Try.f19 := by rw [E0_P]; exact Go.Proofs.Try.func19
theorem B19 : Go.Proofs.Try.f19.body = some (bodyOf Go.Proofs.Try.f19) := rfl
theorem F20 : E0.P.funcs[20]? = some Go.Proofs.Try.f20 := by rw [E0_P]; exact Go.Proofs.Try.func20
theorem B20 : Go.Proofs.Try.f20.body = some (bodyOf Go.Proofs.Try.f20) := rfl
theorem F21 : E0.P.funcs[21]? = some Go.Proofs.Try.f21 := by rw [E0_P]; exact Go.Proofs.Try.func21
theorem B21 : Go.Proofs.Try.f21.body = some (bodyOf Go.Proofs.Try.f21) := rfl
theorem F22 : E0.P.funcs[22]? = some Go.Proofs.Try.f22 := by rw [E0_P]; exact Go.Proofs.Try.func22
theorem B22 : Go.Proofs.Try.f22.body = some (bodyOf Go.Proofs.Try.f22) := rfl
theorem F23 : E0.P.funcs[23]? = some Go.Proofs.Try.f23 := by rw [E0_P]; exact Go.Proofs.Try.func23
theorem B23 : Go.Proofs.Try.f23.body = some (bodyOf Go.Proofs.Try.f23) := rfl
theorem F24 : E0.P.funcs[24]? = some Go.Proofs.Try.f24 := by rw [E0_P]; exact Go.Proofs.Try.func24
theorem B24 : Go.Proofs.Try.f24.body = some (bodyOf Go.Proofs.Try.f24) := rfl
theorem F25 : E0.P.funcs[25]? = some Go.Proofs.Try.f25 := by rw [E0_P]; exact Go.Proofs.Try.func25
theorem B25 : Go.Proofs.Try.f25.body = some (bodyOf Go.Proofs.Try.f25) := rfl
theorem F26 : E0.P.funcs[26]? = some Go.Proofs.Try.f26 := by rw [E0_P]; exact Go.Proofs.Try.func26
theorem B26 : Go.Proofs.Try.f26.body = some (bodyOf Go.Proofs.Try.f26) := rfl
theorem F27 : E0.P.funcs[27]? = some Go.Proofs.Try.f27 := by rw [E0_P]; exact Go.Proofs.Try.func27
theorem B27 : Go.Proofs.Try.f27.body = some (bodyOf Go.Proofs.Try.f27) := rfl
theorem F28 : E0.P.funcs[28]? = some Go.Proofs.Try.f28 := by rw [E0_P]; exact Go.Proofs.Try.func28
theorem B28 : Go.Proofs.Try.f28.body = some (bodyOf Go.Proofs.Try.f28) := rfl
theorem F29 : E0.P.funcs[29]? = some Go.Proofs.Try.f29 := by rw [E0_P]; exact Go.Proofs.Try.func29
theorem B29 : Go.Proofs.Try.f29.body = some (bodyOf Go.Proofs.Try.f29) := rfl
theorem F30 : E0.P.funcs[30]? = some Go.Proofs.Try.f30 := by rw [E0_P]; exact Go.Proofs.Try.func30
theorem B30 : Go.Proofs.Try.f30.body = some (bodyOf Go.Proofs.Try.f30) := rfl
theorem F31 : E0.P.funcs[31]? = some Go.Proofs.Try.f31 := by rw [E0_P]; exact Go.Proofs.Try.func31
theorem B31 : Go.Proofs.Try.f31.body = some (bodyOf Go.Proofs.Try.f31) := rfl
theorem F32 : E0.P.funcs[32]? = some Go.Proofs.Try.f32 := by rw [E0_P]; exact Go.Proofs.Try.func32
theorem B32 : Go.Proofs.Try.f32.body = some (bodyOf Go.Proofs.Try.f32) := rfl
theorem F33 : E0.P.funcs[33]? = some Go.Proofs.Try.f33 := by rw [E0_P]; exact Go.Proofs.Try.func33
theorem B33 : Go.Proofs.Try.f33.body = some (bodyOf Go.Proofs.Try.f33) := rfl
theorem F34 : E0.P.funcs[34]? = some Go.Proofs.Try.f34 := by rw [E0_P]; exact Go.Proofs.Try.func34
theorem B34 : Go.Proofs.Try.f34.body = some (bodyOf Go.Proofs.Try.f34) := rfl
theorem F35 : E0.P.funcs[35]? = some Go.Proofs.Try.f35 := by rw [E0_P]; exact Go.Proofs.Try.func35
theorem B35 : Go.Proofs.Try.f35.body = some (bodyOf Go.Proofs.Try.f35) := rfl
theorem F36 : E0.P.funcs[36]? = some Go.Proofs.Try.f36 := by rw [E0_P]; exact Go.Proofs.Try.func36
theorem B36 : Go.Proofs.Try.f36.body = some (bodyOf Go.Proofs.Try.f36) := rfl
theorem F37 : E0.P.funcs[37]? = some Go.Proofs.Try.f37 := by rw [E0_P]; exact Go.Proofs.Try.func37
theorem B37 : Go.Proofs.Try.f37.body = some (bodyOf Go.Proofs.Try.f37) := rfl
theorem F38 : E0.P.funcs[38]? = some Go.Proofs.Try.f38 := by rw [E0_P]; exact Go.Proofs.Try.func38
theorem B38 : Go.Proofs.Try.f38.body = some (bodyOf Go.Proofs.Try.f38) := rfl
theorem F39 : E0.P.funcs[39]? = some Go.Proofs.Try.f39 := by rw [E0_P]; exact Go.Proofs.Try.func39
theorem B39 : Go.Proofs.Try.f39.body = some (bodyOf Go.Proofs.Try.f39) := rfl
theorem F40 : E0.P.funcs[40]? = some Go.Proofs.Try.f40 := by rw [E0_P]; exact Go.Proofs.Try.func40
theorem B40 : Go.Proofs.Try.f40.body = some (bodyOf Go.Proofs.Try.f40) := rfl
theorem F41 : E0.P.funcs[41]? = some Go.Proofs.Try.f41 := by rw [E0_P]; exact Go.Proofs.Try.func41
theorem B41 : Go.Proofs.Try.f41.body = some (bodyOf Go.Proofs.Try.f41) := rfl
theorem F42 : E0.P.funcs[42]? = some Go.Proofs.Try.f42 := by rw [E0_P]; exact Go.Proofs.Try.func42
theorem B42 : Go.Proofs.Try.f42.body = some (bodyOf Go.Proofs.Try.f42) := rfl
theorem F43 : E0.P.funcs[43]? = some Go.Proofs.Try.f43 := by rw [E0_P]; exact Go.Proofs.Try.func43
theorem B43 : Go.Proofs.Try.f43.body = some (bodyOf Go.Proofs.Try.f43) := rfl
theorem F44 : E0.P.funcs[44]? = some Go.Proofs.Try.f44 := by rw [E0_P]; exact Go.Proofs.Try.func44
theorem B44 : Go.Proofs.Try.f44.body = some (bodyOf Go.Proofs.Try.f44) := rfl
theorem F45 : E0.P.funcs[45]? = some Go.Proofs.Try.f45 := by rw [E0_P]; exact Go.Proofs.Try.func45
theorem B45 : Go.Proofs.Try.f45.body = some (bodyOf Go.Proofs.Try.f45) := rfl
theorem F46 : E0.P.funcs[46]? = some Go.Proofs.Try.f46 := by rw [E0_P]; exact Go.Proofs.Try.func46
theorem B46 : Go.Proofs.Try.f46.body = some (bodyOf Go.Proofs.Try.f46) := rfl
theorem F47 : E0.P.funcs[47]? = some Go.Proofs.Try.f47 := by rw [E0_P]; exact Go.Proofs.Try.func47
theorem B47 : Go.Proofs.Try.f47.body = some (bodyOf Go.Proofs.Try.f47) := rfl
theorem F48 : E0.P.funcs[48]? = some Go.Proofs.Try.f48 := by rw [E0_P]; exact Go.Proofs.Try.func48
theorem B48 : Go.Proofs.Try.f48.body = some (bodyOf Go.Proofs.Try.f48) := rfl
theorem F49 : E0.P.funcs[49]? = some Go.Proofs.Try.f49 := by rw [E0_P]; exact Go.Proofs.Try.func49
theorem B49 : Go.Proofs.Try.f49.body = some (bodyOf Go.Proofs.Try.f49) := rfl
theorem F50 : E0.P.funcs[50]? = some Go.Proofs.Try.f50 := by rw [E0_P]; exact Go.Proofs.Try.func50
theorem B50 : Go.Proofs.Try.f50.body = some (bodyOf Go.Proofs.Try.f50) := rfl
theorem F51 : E0.P.funcs[51]? = some Go.Proofs.Try.f51 := by rw [E0_P]; exact Go.Proofs.Try.func51
theorem B51 : Go.Proofs.Try.f51.body = some (bodyOf Go.Proofs.Try.f51) := rfl
theorem F52 : E0.P.funcs[52]? = some Go.Proofs.Try.f52 := by rw [E0_P]; exact Go.Proofs.Try.func52
theorem B52 : Go.Proofs.Try.f52.body = some (bodyOf Go.Proofs.Try.f52) := rfl
theorem F53 : E0.P.funcs[53]? = some Go.Proofs.Try.f53 := by rw [E0_P]; exact Go.Proofs.Try.func53
theorem B53 : Go.Proofs.Try.f53.body = some (bodyOf Go.Proofs.Try.f53) := rfl
theorem F54 : E0.P.funcs[54]? = some Go.Proofs.Try.f54 := by rw [E0_P]; exact Go.Proofs.Try.func54
theorem B54 : Go.Proofs.Try.f54.body = some (bodyOf Go.Proofs.Try.f54) := rfl
theorem F55 : E0.P.funcs[55]? = some Go.Proofs.Try.f55 := by rw [E0_P]; exact Go.Proofs.Try.func55
theorem B55 : Go.Proofs.Try.f55.body = some (bodyOf Go.Proofs.Try.f55) := rfl
theorem F56 : E0.P.funcs[56]? = some Go.Proofs.Try.f56 := by rw [E0_P]; exact Go.Proofs.Try.func56
theorem B56 : Go.Proofs.Try.f56.body = some (bodyOf Go.Proofs.Try.f56) := rfl
theorem F57 : E0.P.funcs[57]? = some Go.Proofs.Try.f57 := by rw [E0_P]; exact Go.Proofs.Try.func57
theorem B57 : Go.Proofs.Try.f57.body = some (bodyOf Go.Proofs.Try.f57) := rfl
theorem F58 : E0.P.funcs[58]? = some Go.Proofs.Try.f58 := by rw [E0_P]; exact Go.Proofs.Try.func58
theorem B58 : Go.Proofs.Try.f58.body = some (bodyOf Go.Proofs.Try.f58) := rfl
theorem F59 : E0.P.funcs[59]? = some Go.Proofs.Try.f59 := by rw [E0_P]; exact Go.Proofs.Try.func59
theorem B59 : Go.Proofs.Try.f59.body = some (bodyOf Go.Proofs.Try.f59) := rfl
theorem F60 : E0.P.funcs[60]? = some Go.Proofs.Try.f60 := by rw [E0_P]; exact Go.Proofs.Try.func60
theorem B60 : Go.Proofs.Try.f60.body = some (bodyOf Go.Proofs.Try.f60) := rfl
theorem F61 : E0.P.funcs[61]? = some Go.Proofs.Try.f61 := by rw [E0_P]; exact Go.Proofs.Try.func61
theorem B61 : Go.Proofs.Try.f61.body = some (bodyOf Go.Proofs.Try.f61) := rfl
theorem F62 : E0.P.funcs[62]? = some Go.Proofs.Try.f62 := by rw [E0_P]; exact Go.Proofs.Try.func62
theorem B62 : Go.Proofs.Try.f62.body = some (bodyOf Go.Proofs.Try.f62) := rfl
theorem F63 : E0.P.funcs[63]? = some Go.Proofs.Try.f63 := by rw [E0_P]; exact Go.Proofs.Try.func63
theorem B63 : Go.Proofs.Try.f63.body = some (bodyOf Go.Proofs.Try.f63) := rfl
theorem F64 : E0.P.funcs[64]? = some Go.Proofs.Try.f64 := by rw [E0_P]; exact Go.Proofs.Try.func64
theorem B64 : Go.Proofs.Try.f64.body = some (bodyOf Go.Proofs.Try.f64) := rfl
theorem F65 : E0.P.funcs[65]? = some Go.Proofs.Try.f65 := by rw [E0_P]; exact Go.Proofs.Try.func65
theorem B65 : Go.Proofs.Try.f65.body = some (bodyOf Go.Proofs.Try.f65) := rfl
theorem F66 : E0.P.funcs[66]? = some Go.Proofs.Try.f66 := by rw [E0_P]; exact Go.Proofs.Try.func66
theorem B66 : Go.Proofs.Try.f66.body = some (bodyOf Go.Proofs.Try.f66) := rfl
theorem F67 : E0.P.funcs[67]? = some Go.Proofs.Try.f67 := by rw [E0_P]; exact Go.Proofs.Try.func67
theorem B67 : Go.Proofs.Try.f67.body = some (bodyOf Go.Proofs.Try.f67) := rfl
theorem F68 : E0.P.funcs[68]? = some Go.Proofs.Try.f68 := by rw [E0_P]; exact Go.Proofs.Try.func68
theorem B68 : Go.Proofs.Try.f68.body = some (bodyOf Go.Proofs.Try.f68) := rfl
theorem F69 : E0.P.funcs[69]? = some Go.Proofs.Try.f69 := by rw [E0_P]; exact Go.Proofs.Try.func69
theorem B69 : Go.Proofs.Try.f69.body = some (bodyOf Go.Proofs.Try.f69) := rfl
theorem F70 : E0.P.funcs[70]? = some Go.Proofs.Try.f70 := by rw [E0_P]; exact Go.Proofs.Try.func70
theorem B70 : Go.Proofs.Try.f70.body = some (bodyOf Go.Proofs.Try.f70) := rfl
theorem F71 : E0.P.funcs[71]? = some Go.Proofs.Try.f71 := by rw [E0_P]; exact Go.Proofs.Try.func71
theorem B71 : Go.Proofs.Try.f71.body = some (bodyOf Go.Proofs.Try.f71) := rfl
theorem F72 : E0.P.funcs[72]? = some Go.Proofs.Try.f72 := by rw [E0_P]; exact Go.Proofs.Try.func72
theorem B72 : Go.Proofs.Try.f72.body = some (bodyOf Go.Proofs.Try.f72) := rfl
theorem F73 : E0.P.funcs[73]? = some Go.Proofs.Try.f73 := by rw [E0_P]; exact Go.Proofs.Try.func73
theorem B73 : Go.Proofs.Try.f73.body = some (bodyOf Go.Proofs.Try.f73) := rfl
theorem F74 : E0.P.funcs[74]? = some Go.Proofs.Try.f74 := by rw [E0_P]; exact Go.Proofs.Try.func74
theorem B74 : Go.Proofs.Try.f74.body = some (bodyOf Go.Proofs.Try.f74) := rfl
theorem F75 : E0.P.funcs[75]? = some Go.Proofs.Try.f75 := by rw [E0_P]; exact Go.Proofs.Try.func75
theorem B75 : Go.Proofs.Try.f75.body = some (bodyOf Go.Proofs.Try.f75) := rfl
theorem F76 : E0.P.funcs[76]? = some Go.Proofs.Try.f76 := by rw [E0_P]; exact Go.Proofs.Try.func76
theorem B76 : Go.Proofs.Try.f76.body = some (bodyOf Go.Proofs.Try.f76) := rfl
theorem F77 : E0.P.funcs[77]? = some Go.Proofs.Try.f77 := by rw [E0_P]; exact Go.Proofs.Try.func77
theorem B77 : Go.Proofs.Try.f77.body = some (bodyOf Go.Proofs.Try.f77) := rfl
theorem F78 : E0.P.funcs[78]? = some Go.Proofs.Try.f78 := by rw [E0_P]; exact Go.Proofs.Try.func78
theorem B78 : Go.Proofs.Try.f78.body = some (bodyOf Go.Proofs.Try.f78) := rfl
theorem F79 : E0.P.funcs[79]? = some Go.Proofs.Try.f79 := by rw [E0_P]; exact Go.Proofs.Try.func79
theorem B79 : Go.Proofs.Try.f79.body = some (bodyOf Go.Proofs.Try.f79) := rfl
theorem F80 : E0.P.funcs[80]? = some Go.Proofs.Try.f80 := by rw [E0_P]; exact Go.Proofs.Try.func80
theorem B80 : Go.Proofs.Try.f80.body = some (bodyOf Go.Proofs.Try.f80) := rfl
theorem F81 : E0.P.funcs[81]? = some Go.Proofs.Try.f81 := by rw [E0_P]; exact Go.Proofs.Try.func81
theorem B81 : Go.Proofs.Try.f81.body = some (bodyOf Go.Proofs.Try.f81) := rfl
theorem F82 : E0.P.funcs[82]? = some Go.Proofs.Try.f82 := by rw [E0_P]; exact Go.Proofs.Try.func82
theorem B82 : Go.Proofs.Try.f82.body = some (bodyOf Go.Proofs.Try.f82) := rfl
theorem F83 : E0.P.funcs[83]? = some Go.Proofs.Try.f83 := by rw [E0_P]; exact Go.Proofs.Try.func83
theorem B83 : Go.Proofs.Try.f83.body = some (bodyOf Go.Proofs.Try.f83) := rfl
theorem F84 : E0.P.funcs[84]? = some Go.Proofs.Try.f84 := by rw [E0_P]; exact Go.Proofs.Try.func84
theorem B84 : Go.Proofs.Try.f84.body = some (bodyOf Go.Proofs.Try.f84) := rfl
theorem F85 : E0.P.funcs[85]? = some Go.Proofs.Try.f85 := by rw [E0_P]; exact Go.Proofs.Try.func85
theorem B85 : Go.Proofs.Try.f85.body = some (bodyOf Go.Proofs.Try.f85) := rfl
theorem F86 : E0.P.funcs[86]? = some Go.Proofs.Try.f86 := by rw [E0_P]; exact Go.Proofs.Try.func86
theorem B86 : Go.Proofs.Try.f86.body = some (bodyOf Go.Proofs.Try.f86) := rfl
theorem F87 : E0.P.funcs[87]? = some Go.Proofs.Try.f87 := by rw [E0_P]; exact Go.Proofs.Try.func87
theorem B87 : Go.Proofs.Try.f87.body = some (bodyOf Go.Proofs.Try.f87) := rfl
theorem F88 : E0.P.funcs[88]? = some Go.Proofs.Try.f88 := by rw [E0_P]; exact Go.Proofs.Try.func88
theorem B88 : Go.Proofs.Try.f88.body = some (bodyOf Go.Proofs.Try.f88) := rfl
theorem F89 : E0.P.funcs[89]? = some Go.Proofs.Try.f89 := by rw [E0_P]; exact Go.Proofs.Try.func89
theorem B89 : Go.Proofs.Try.f89.body = some (bodyOf Go.Proofs.Try.f89) := rfl
theorem F90 : E0.P.funcs[90]? = some Go.Proofs.Try.f90 := by rw [E0_P]; exact Go.Proofs.Try.func90
theorem B90 : Go.Proofs.Try.f90.body = some (bodyOf Go.Proofs.Try.f90) := rfl
theorem F91 : E0.P.funcs[91]? = some Go.Proofs.Try.f91 := by rw [E0_P]; exact Go.Proofs.Try.func91
theorem B91 : Go.Proofs.Try.f91.body = some (bodyOf Go.Proofs.Try.f91) := rfl
theorem F92 : E0.P.funcs[92]? = some Go.Proofs.Try.f92 := by rw [E0_P]; exact Go.Proofs.Try.func92
theorem B92 : Go.Proofs.Try.f92.body = some (bodyOf Go.Proofs.Try.f92) := rfl
theorem F93 : E0.P.funcs[93]? = some Go.Proofs.Try.f93 := by rw [E0_P]; exact Go.Proofs.Try.func93
theorem B93 : Go.Proofs.Try.f93.body = some (bodyOf Go.Proofs.Try.f93) := rfl
theorem F94 : E0.P.funcs[94]? = some Go.Proofs.Try.f94 := by rw [E0_P]; exact Go.Proofs.Try.func94
theorem B94 : Go.Proofs.Try.f94.body = some (bodyOf Go.Proofs.Try.f94) := rfl
theorem F95 : E0.P.funcs[95]? = some Go.Proofs.Try.f95 := by rw [E0_P]; exact Go.Proofs.Try.func95
theorem B95 : Go.Proofs.Try.f95.body = some (bodyOf Go.Proofs.Try.f95) := rfl
theorem F96 : E0.P.funcs[96]? = some Go.Proofs.Try.f96 := by rw [E0_P]; exact Go.Proofs.Try.func96
theorem B96 : Go.Proofs.Try.f96.body = some (bodyOf Go.Proofs.Try.f96) := rfl
theorem F97 : E0.P.funcs[97]? = some Go.Proofs.Try.f97 := by rw [E0_P]; exact Go.Proofs.Try.func97
theorem B97 : Go.Proofs.Try.f97.body = some (bodyOf Go.Proofs.Try.f97) := rfl
theorem F98 : E0.P.funcs[98]? = some Go.Proofs.Try.f98 := by rw [E0_P]; exact Go.Proofs.Try.func98
theorem B98 : Go.Proofs.Try.f98.body = some (bodyOf Go.Proofs.Try.f98) := rfl
theorem F99 : E0.P.funcs[99]? = some Go.Proofs.Try.f99 := by rw [E0_P]; exact Go.Proofs.Try.func99
theorem B99 : Go.Proofs.Try.f99.body = some (bodyOf Go.Proofs.Try.f99) := rfl
theorem F100 : E0.P.funcs[100]? = some Go.Proofs.Try.f100 := by rw [E0_P]; exact Go.Proofs.Try.func100
theorem B100 : Go.Proofs.Try.f100.body = some (bodyOf Go.Proofs.Try.f100) := rfl
theorem F101 : E0.P.funcs[101]? = some Go.Proofs.Try.f101 := by rw [E0_P]; exact Go.Proofs.Try.func101
theorem B101 : Go.Proofs.Try.f101.body = some (bodyOf Go.Proofs.Try.f101) := rfl
theorem F102 : E0.P.funcs[102]? = some Go.Proofs.Try.f102 := by rw [E0_P]; exact Go.Proofs.Try.func102
theorem B102 : Go.Proofs.Try.f102.body = some (bodyOf Go.Proofs.Try.f102) := rfl
theorem F103 : E0.P.funcs[103]? = some Go.Proofs.Try.f103 := by rw [E0_P]; exact Go.Proofs.Try.func103
theorem B103 : Go.Proofs.Try.f103.body = some (bodyOf Go.Proofs.Try.f103) := rfl
theorem F104 : E0.P.funcs[104]? = some Go.Proofs.Try.f104 := by rw [E0_P]; exact Go.Proofs.Try.func104
theorem B104 : Go.Proofs.Try.f104.body = some (bodyOf Go.Proofs.Try.f104) := rfl
theorem F105 : E0.P.funcs[105]? = some Go.Proofs.Try.f105 := by rw [E0_P]; exact Go.Proofs.Try.func105
theorem B105 : Go.Proofs.Try.f105.body = some (bodyOf Go.Proofs.Try.f105) := rfl
theorem F106 : E0.P.funcs[106]? = some Go.Proofs.Try.f106 := by rw [E0_P]; exact Go.Proofs.Try.func106
theorem B106 : Go.Proofs.Try.f106.body = some (bodyOf Go.Proofs.Try.f106) := rfl
theorem F107 : E0.P.funcs[107]? = some Go.Proofs.Try.f107 := by rw [E0_P]; exact Go.Proofs.Try.func107
theorem B107 : Go.Proofs.Try.f107.body = some (bodyOf Go.Proofs.Try.f107) := rfl
theorem F108 : E0.P.funcs[108]? = some Go.Proofs.Try.f108 := by rw [E0_P]; exact Go.Proofs.Try.func108
theorem B108 : Go.Proofs.Try.f108.body = some (bodyOf Go.Proofs.Try.f108) := rfl
theorem F109 : E0.P.funcs[109]? = some Go.Proofs.Try.f109 := by rw [E0_P]; exact Go.Proofs.Try.func109
theorem B109 : Go.Proofs.Try.f109.body = some (bodyOf Go.Proofs.Try.f109) := rfl
theorem F110 : E0.P.funcs[110]? = some Go.Proofs.Try.f110 := by rw [E0_P]; exact Go.Proofs.Try.func110
theorem B110 : Go.Proofs.Try.f110.body = some (bodyOf Go.Proofs.Try.f110) := rfl
theorem F111 : E0.P.funcs[111]? = some Go.Proofs.Try.f111 := by rw [E0_P]; exact Go.Proofs.Try.func111
theorem B111 : Go.Proofs.Try.f111.body = some (bodyOf Go.Proofs.Try.f111) := rfl
theorem F112 : E0.P.funcs[112]? = some Go.Proofs.Try.f112 := by rw [E0_P]; exact Go.Proofs.Try.func112
theorem B112 : Go.Proofs.Try.f112.body = some (bodyOf Go.Proofs.Try.f112) := rfl
theorem F113 : E0.P.funcs[113]? = some Go.Proofs.Try.f113 := by rw [E0_P]; exact Go.Proofs.Try.func113
theorem B113 : Go.Proofs.Try.f113.body = some (bodyOf Go.Proofs.Try.f113) := rfl
theorem F114 : E0.P.funcs[114]? = some Go.Proofs.Try.f114 := by rw [E0_P]; exact Go.Proofs.Try.func114
theorem B114 : Go.Proofs.Try.f114.body = some (bodyOf Go.Proofs.Try.f114) := rfl
theorem F115 : E0.P.funcs[115]? = some Go.Proofs.Try.f115 := by rw [E0_P]; exact Go.Proofs.Try.func115
theorem B115 : Go.Proofs.Try.f115.body = some (bodyOf Go.Proofs.Try.f115) := rfl
theorem F116 : E0.P.funcs[116]? = some Go.Proofs.Try.f116 := by rw [E0_P]; exact Go.Proofs.Try.func116
theorem B116 : Go.Proofs.Try.f116.body = some (bodyOf Go.Proofs.Try.f116) := rfl
theorem F117 : E0.P.funcs[117]? = some Go.Proofs.Try.f117 := by rw [E0_P]; exact Go.Proofs.Try.func117
theorem B117 : Go.Proofs.Try.f117.body = some (bodyOf Go.Proofs.Try.f117) := rfl
theorem F118 : E0.P.funcs[118]? = some Go.Proofs.Try.f118 := by rw [E0_P]; exact Go.Proofs.Try.func118
theorem B118 : Go.Proofs.Try.f118.body = some (bodyOf Go.Proofs.Try.f118) := rfl
theorem F119 : E0.P.funcs[119]? = some Go.Proofs.Try.f119 := by rw [E0_P]; exact Go.Proofs.Try.func119
theorem B119 : Go.Proofs.Try.f119.body = some (bodyOf Go.Proofs.Try.f119) := rfl
theorem F120 : E0.P.funcs[120]? = some Go.Proofs.Try.f120 := by rw [E0_P]; exact Go.Proofs.Try.func120
theorem B120 : Go.Proofs.Try.f120.body = some (bodyOf Go.Proofs.Try.f120) := rfl
theorem F121 : E0.P.funcs[121]? = some Go.Proofs.Try.f121 := by rw [E0_P]; exact Go.Proofs.Try.func121
theorem B121 : Go.Proofs.Try.f121.body = some (bodyOf Go.Proofs.Try.f121) := rfl
theorem F122 : E0.P.funcs[122]? = some Go.Proofs.Try.f122 := by rw [E0_P]; exact Go.Proofs.Try.func122
theorem B122 : Go.Proofs.Try.f122.body = some (bodyOf Go.Proofs.Try.f122) := rfl
theorem F123 : E0.P.funcs[123]? = some Go.Proofs.Try.f123 := by rw [E0_P]; exact Go.Proofs.Try.func123
theorem B123 : Go.Proofs.Try.f123.body = some (bodyOf Go.Proofs.Try.f123) := rfl
theorem F124 : E0.P.funcs[124]? = some Go.Proofs.Try.f124 := by rw [E0_P]; exact Go.Proofs.Try.func124
theorem B124 : Go.Proofs.Try.f124.body = some (bodyOf Go.Proofs.Try.f124) := rfl
theorem F125 : E0.P.funcs[125]? = some Go.Proofs.Try.f125 := by rw [E0_P]; exact Go.Proofs.Try.func125
theorem B125 : Go.Proofs.Try.f125.body = some (bodyOf Go.Proofs.Try.f125) := rfl
theorem F126 : E0.P.funcs[126]? = some Go.Proofs.Try.f126 := by rw [E0_P]; exact Go.Proofs.Try.func126
theorem B126 : Go.Proofs.Try.f126.body = some (bodyOf Go.Proofs.Try.f126) := rfl
theorem F127 : E0.P.funcs[127]? = some Go.Proofs.Try.f127 := by rw [E0_P]; exact Go.Proofs.Try.func127
theorem B127 : Go.Proofs.Try.f127.body = some (bodyOf Go.Proofs.Try.f127) := rfl
theorem F128 : E0.P.funcs[128]? = some Go.Proofs.Try.f128 := by rw [E0_P]; exact Go.Proofs.Try.func128
theorem B128 : Go.Proofs.Try.f128.body = some (bodyOf Go.Proofs.Try.f128) := rfl
theorem F129 : E0.P.funcs[129]? = some Go.Proofs.Try.f129 := by rw [E0_P]; exact Go.Proofs.Try.func129
theorem B129 : Go.Proofs.Try.f129.body = some (bodyOf Go.Proofs.Try.f129) := rfl
theorem F130 : E0.P.funcs[130]? = some Go.Proofs.Try.f130 := by rw [E0_P]; exact Go.Proofs.Try.func130
theorem B130 : Go.Proofs.Try.f130.body = some (bodyOf Go.Proofs.Try.f130) := rfl
theorem F131 : E0.P.funcs[131]? = some Go.Proofs.Try.f131 := by rw [E0_P]; exact Go.Proofs.Try.func131
theorem B131 : Go.Proofs.Try.f131.body = some (bodyOf Go.Proofs.Try.f131) := rfl
theorem F132 : E0.P.funcs[132]? = some Go.Proofs.Try.f132 := by rw [E0_P]; exact Go.Proofs.Try.func132
theorem B132 : Go.Proofs.Try.f132.body = some (bodyOf Go.Proofs.Try.f132) := rfl
theorem F133 : E0.P.funcs[133]? = some Go.Proofs.Try.f133 := by rw [E0_P]; exact Go.Proofs.Try.func133
theorem B133 : Go.Proofs.Try.f133.body = some (bodyOf Go.Proofs.Try.f133) := rfl
theorem F134 : E0.P.funcs[134]? = some Go.Proofs.Try.f134 := by rw [E0_P]; exact Go.Proofs.Try.func134
theorem B134 : Go.Proofs.Try.f134.body = some (bodyOf Go.Proofs.Try.f134) := rfl
theorem F135 : E0.P.funcs[135]? = some Go.Proofs.Try.f135 := by rw [E0_P]; exact Go.Proofs.Try.func135
theorem B135 : Go.Proofs.Try.f135.body = some (bodyOf Go.Proofs.Try.f135) := rfl
theorem F136 : E0.P.funcs[136]? = some Go.Proofs.Try.f136 := by rw [E0_P]; exact Go.Proofs.Try.func136
theorem B136 : Go.Proofs.Try.f136.body = some (bodyOf Go.Proofs.Try.f136) := rfl
theorem F137 : E0.P.funcs[137]? = some Go.Proofs.Try.f137 := by rw [E0_P]; exact Go.Proofs.Try.func137
theorem B137 : Go.Proofs.Try.f137.body = some (bodyOf Go.Proofs.Try.f137) := rfl
theorem F138 : E0.P.funcs[138]? = some Go.Proofs.Try.f138 := by rw [E0_P]; exact Go.Proofs.Try.func138
theorem B138 : Go.Proofs.Try.f138.body = some (bodyOf Go.Proofs.Try.f138) := rfl
theorem F139 : E0.P.funcs[139]? = some Go.Proofs.Try.f139 := by rw [E0_P]; exact Go.Proofs.Try.func139
theorem B139 : Go.Proofs.Try.f139.body = some (bodyOf Go.Proofs.Try.f139) := rfl
theorem F140 : E0.P.funcs[140]? = some Go.Proofs.Try.f140 := by rw [E0_P]; exact Go.Proofs.Try.func140
theorem B140 : Go.Proofs.Try.f140.body = some (bodyOf Go.Proofs.Try.f140) := rfl
theorem F141 : E0.P.funcs[141]? = some Go.Proofs.Try.f141 := by rw [E0_P]; exact Go.Proofs.Try.func141
theorem B141 : Go.Proofs.Try.f141.body = some (bodyOf Go.Proofs.Try.f141) := rfl
theorem F142 : E0.P.funcs[142]? = some Go.Proofs.Try.f142 := by rw [E0_P]; exact Go.Proofs.Try.func142
theorem B142 : Go.Proofs.Try.f142.body = some (bodyOf Go.Proofs.Try.f142) := rfl
theorem F143 : E0.P.funcs[143]? = some Go.Proofs.Try.f143 := by rw [E0_P]; exact Go.Proofs.Try.func143
theorem B143 : Go.Proofs.Try.f143.body = some (bodyOf Go.Proofs.Try.f143) := rfl
theorem F144 : E0.P.funcs[144]? = some Go.Proofs.Try.f144 := by rw [E0_P]; exact Go.Proofs.Try.func144
theorem B144 : Go.Proofs.Try.f144.body = some (bodyOf Go.Proofs.Try.f144) := rfl
theorem F145 : E0.P.funcs[145]? = some Go.Proofs.Try.f145 := by rw [E0_P]; exact Go.Proofs.Try.func145
theorem B145 : Go.Proofs.Try.f145.body = some (bodyOf Go.Proofs.Try.f145) := rfl
theorem F146 : E0.P.funcs[146]? = some Go.Proofs.Try.f146 := by rw [E0_P]; exact Go.Proofs.Try.func146
theorem B146 : Go.Proofs.Try.f146.body = some (bodyOf Go.Proofs.Try.f146) := rfl
theorem F147 : E0.P.funcs[147]? = some Go.Proofs.Try.f147 := by rw [E0_P]; exact Go.Proofs.Try.func147
theorem B147 : Go.Proofs.Try.f147.body = some (bodyOf Go.Proofs.Try.f147) := rfl
theorem F148 : E0.P.funcs[148]? = some Go.Proofs.Try.f148 := by rw [E0_P]; exact Go.Proofs.Try.func148
theorem B148 : Go.Proofs.Try.f148.body = some (bodyOf Go.Proofs.Try.f148) := rfl
theorem F149 : E0.P.funcs[149]? = some Go.Proofs.Try.f149 := by rw [E0_P]; exact Go.Proofs.Try.func149
theorem B149 : Go.Proofs.Try.f149.body = some (bodyOf Go.Proofs.Try.f149) := rfl
theorem F150 : E0.P.funcs[150]? = some Go.Proofs.Try.f150 := by rw [E0_P]; exact Go.Proofs.Try.func150
theorem B150 : Go.Proofs.Try.f150.body = some (bodyOf Go.Proofs.Try.f150) := rfl
theorem F151 : E0.P.funcs[151]? = some Go.Proofs.Try.f151 := by rw [E0_P]; exact Go.Proofs.Try.func151
theorem B151 : Go.Proofs.Try.f151.body = some (bodyOf Go.Proofs.Try.f151) := rfl
theorem F152 : E0.P.funcs[152]? = some Go.Proofs.Try.f152 := by rw [E0_P]; exact Go.Proofs.Try.func152
theorem B152 : Go.Proofs.Try.f152.body = some (bodyOf Go.Proofs.Try.f152) := rfl
theorem F153 : E0.P.funcs[153]? = some Go.Proofs.Try.f153 := by rw [E0_P]; exact Go.Proofs.Try.func153
theorem B153 : Go.Proofs.Try.f153.body = some (bodyOf Go.Proofs.Try.f153) := rfl
theorem F154 : E0.P.funcs[154]? = some Go.Proofs.Try.f154 := by rw [E0_P]; exact Go.Proofs.Try.func154
theorem B154 : Go.Proofs.Try.f154.body = some (bodyOf Go.Proofs.Try.f154) := rfl
theorem F155 : E0.P.funcs[155]? = some Go.Proofs.Try.f155 := by rw [E0_P]; exact Go.Proofs.Try.func155
theorem B155 : Go.Proofs.Try.f155.body = some (bodyOf Go.Proofs.Try.f155) := rfl
theorem F156 : E0.P.funcs[156]? = some Go.Proofs.Try.f156 := by rw [E0_P]; exact Go.Proofs.Try.func156
theorem B156 : Go.Proofs.Try.f156.body = some (bodyOf Go.Proofs.Try.f156) := rfl
theorem F157 : E0.P.funcs[157]? = some Go.Proofs.Try.f157 := by rw [E0_P]; exact Go.Proofs.Try.func157
theorem B157 : Go.Proofs.Try.f157.body = some (bodyOf Go.Proofs.Try.f157) := rfl
theorem F158 : E0.P.funcs[158]? = some Go.Proofs.Try.f158 := by rw [E0_P]; exact Go.Proofs.Try.func158
theorem B158 : Go.Proofs.Try.f158.body = some (bodyOf Go.Proofs.Try.f158) := rfl
theorem F159 : E0.P.funcs[159]? = some Go.Proofs.Try.f159 := by rw [E0_P]; exact Go.Proofs.Try.func159
theorem B159 : Go.Proofs.Try.f159.body = some (bodyOf Go.Proofs.Try.f159) := rfl
theorem F160 : E0.P.funcs[160]? = some Go.Proofs.Try.f160 := by rw [E0_P]; exact Go.Proofs.Try.func160
theorem B160 : Go.Proofs.Try.f160.body = some (bodyOf Go.Proofs.Try.f160) := rfl
theorem F161 : E0.P.funcs[161]? = some Go.Proofs.Try.f161 := by rw [E0_P]; exact Go.Proofs.Try.func161
theorem B161 : Go.Proofs.Try.f161.body = some (bodyOf Go.Proofs.Try.f161) := rfl
theorem F162 : E0.P.funcs[162]? = some Go.Proofs.Try.f162 := by rw [E0_P]; exact Go.Proofs.Try.func162
theorem B162 : Go.Proofs.Try.f162.body = some (bodyOf Go.Proofs.Try.f162) := rfl
theorem F163 : E0.P.funcs[163]? = some Go.Proofs.Try.f163 := by rw [E0_P]; exact Go.Proofs.Try.func163
theorem B163 : Go.Proofs.Try.f163.body = some (bodyOf Go.Proofs.Try.f163) := rfl
theorem F164 : E0.P.funcs[164]? = some Go.Proofs.Try.f164 := by rw [E0_P]; exact Go.Proofs.Try.func164
theorem B164 : Go.Proofs.Try.f164.body = some (bodyOf Go.Proofs.Try.f164) := rfl
theorem F165 : E0.P.funcs[165]? = some Go.Proofs.Try.f165 := by rw [E0_P]; exact Go.Proofs.Try.func165
theorem B165 : Go.Proofs.Try.f165.body = some (bodyOf Go.Proofs.Try.f165) := rfl
theorem F166 : E0.P.funcs[166]? = some Go.Proofs.Try.f166 := by rw [E0_P]; exact Go.Proofs.Try.func166
theorem B166 : Go.Proofs.Try.f166.body = some (bodyOf Go.Proofs.Try.f166) := rfl
theorem F167 : E0.P.funcs[167]? = some Go.Proofs.Try.f167 := by rw [E0_P]; exact Go.Proofs.Try.func167
theorem B167 : Go.Proofs.Try.f167.body = some (bodyOf Go.Proofs.Try.f167) := rfl
theorem F168 : E0.P.funcs[168]? = some Go.Proofs.Try.f168 := by rw [E0_P]; exact Go.Proofs.Try.func168
theorem B168 : Go.Proofs.Try.f168.body = some (bodyOf Go.Proofs.Try.f168) := rfl
theorem F169 : E0.P.funcs[169]? = some Go.Proofs.Try.f169 := by rw [E0_P]; exact Go.Proofs.Try.func169
theorem B169 : Go.Proofs.Try.f169.body = some (bodyOf Go.Proofs.Try.f169) := rfl
theorem F170 : E0.P.funcs[170]? = some Go.Proofs.Try.f170 := by rw [E0_P]; exact Go.Proofs.Try.func170
theorem B170 : Go.Proofs.Try.f170.body = some (bodyOf Go.Proofs.Try.f170) := rfl
theorem F171 : E0.P.funcs[171]? = some Go.Proofs.Try.f171 := by rw [E0_P]; exact Go.Proofs.Try.func171
theorem B171 : Go.Proofs.Try.f171.body = some (bodyOf Go.Proofs.Try.f171) := rfl
theorem F172 : E0.P.funcs[172]? = some Go.Proofs.Try.f172 := by rw [E0_P]; exact Go.Proofs.Try.func172
theorem B172 : Go.Proofs.Try.f172.body = some (bodyOf Go.Proofs.Try.f172) := rfl
theorem F173 : E0.P.funcs[173]? = some Go.Proofs.Try.f173 := by rw [E0_P]; exact Go.Proofs.Try.func173
theorem B173 : Go.Proofs.Try.f173.body = some (bodyOf Go.Proofs.Try.f173) := rfl
theorem F174 : E0.P.funcs[174]? = some Go.Proofs.Try.f174 := by rw [E0_P]; exact Go.Proofs.Try.func174
theorem B174 : Go.Proofs.Try.f174.body = some (bodyOf Go.Proofs.Try.f174) := rfl
theorem F175 : E0.P.funcs[175]? = some Go.Proofs.Try.f175 := by rw [E0_P]; exact Go.Proofs.Try.func175
theorem B175 : Go.Proofs.Try.f175.body = some (bodyOf Go.Proofs.Try.f175) := rfl
theorem F176 : E0.P.funcs[176]? = some Go.Proofs.Try.f176 := by rw [E0_P]; exact Go.Proofs.Try.func176
theorem B176 : Go.Proofs.Try.f176.body = some (bodyOf Go.Proofs.Try.f176) := rfl
theorem F177 : E0.P.funcs[177]? = some Go.Proofs.Try.f177 := by rw [E0_P]; exact Go.Proofs.Try.func177
theorem B177 : Go.Proofs.Try.f177.body = some (bodyOf Go.Proofs.Try.f177) := rfl
theorem F178 : E0.P.funcs[178]? = some Go.Proofs.Try.f178 := by rw [E0_P]; exact Go.Proofs.Try.func178
theorem B178 : Go.Proofs.Try.f178.body = some (bodyOf Go.Proofs.Try.f178) := rfl
theorem F179 : E0.P.funcs[179]? = some Go.Proofs.Try.f179 := by rw [E0_P]; exact Go.Proofs.Try.func179
theorem B179 : Go.Proofs.Try.f179.body = some (bodyOf Go.Proofs.Try.f179) := rfl
theorem F180 : E0.P.funcs[180]? = some Go.Proofs.Try.f180 := by rw [E0_P]; exact Go.Proofs.Try.func180
theorem B180 : Go.Proofs.Try.f180.body = some (bodyOf Go.Proofs.Try.f180) := rfl
theorem F181 : E0.P.funcs[181]? = some Go.Proofs.Try.f181 := by rw [E0_P]; exact Go.Proofs.Try.func181
theorem B181 : Go.Proofs.Try.f181.body = some (bodyOf Go.Proofs.Try.f181) := rfl
theorem F182 : E0.P.funcs[182]? = some Go.Proofs.Try.f182 := by rw [E0_P]; exact Go.Proofs.Try.func182
theorem B182 : Go.Proofs.Try.f182.body = some (bodyOf Go.Proofs.Try.f182) := rfl
theorem F183 : E0.P.funcs[183]? = some Go.Proofs.Try.f183 := by rw [E0_P]; exact Go.Proofs.Try.func183
theorem B183 : Go.Proofs.Try.f183.body = some (bodyOf Go.Proofs.Try.f183) := rfl
theorem F184 : E0.P.funcs[184]? = some Go.Proofs.Try.f184 := by rw [E0_P]; exact Go.Proofs.Try.func184
theorem B184 : Go.Proofs.Try.f184.body = some (bodyOf Go.Proofs.Try.f184) := rfl
theorem F185 : E0.P.funcs[185]? = some Go.Proofs.Try.f185 := by rw [E0_P]; exact Go.Proofs.Try.func185
theorem B185 : Go.Proofs.Try.f185.body = some (bodyOf Go.Proofs.Try.f185) := rfl
theorem F186 : E0.P.funcs[186]? = some Go.Proofs.Try.f186 := by rw [E0_P]; exact Go.Proofs.Try.func186
theorem B186 : Go.Proofs.Try.f186.body = some (bodyOf Go.Proofs.Try.f186) := rfl
theorem F187 : E0.P.funcs[187]? = some Go.Proofs.Try.f187 := by rw [E0_P]; exact Go.Proofs.Try.func187
theorem B187 : Go.Proofs.Try.f187.body = some (bodyOf Go.Proofs.Try.f187) := rfl
theorem F188 : E0.P.funcs[188]? = some Go.Proofs.Try.f188 := by rw [E0_P]; exact Go.Proofs.Try.func188
theorem B188 : Go.Proofs.Try.f188.body = some (bodyOf Go.Proofs.Try.f188) := rfl
theorem F189 : E0.P.funcs[189]? = some Go.Proofs.Try.f189 := by rw [E0_P]; exact Go.Proofs.Try.func189
theorem B189 : Go.Proofs.Try.f189.body = some (bodyOf Go.Proofs.Try.f189) := rfl
theorem F190 : E0.P.funcs[190]? = some Go.Proofs.Try.f190 := by rw [E0_P]; exact Go.Proofs.Try.func190
theorem B190 : Go.Proofs.Try.f190.body = some (bodyOf Go.Proofs.Try.f190) := rfl
theorem F191 : E0.P.funcs[191]? = some Go.Proofs.Try.f191 := by rw [E0_P]; exact Go.Proofs.Try.func191
theorem B191 : Go.Proofs.Try.f191.body = some (bodyOf Go.Proofs.Try.f191) := rfl
theorem F192 : E0.P.funcs[192]? = some Go.Proofs.Try.f192 := by rw [E0_P]; exact Go.Proofs.Try.func192
theorem B192 : Go.Proofs.Try.f192.body = some (bodyOf Go.Proofs.Try.f192) := rfl
theorem F193 : E0.P.funcs[193]? = some Go.Proofs.Try.f193 := by rw [E0_P]; exact Go.Proofs.Try.func193
theorem B193 : Go.Proofs.Try.f193.body = some (bodyOf Go.Proofs.Try.f193) := rfl
theorem F194 : E0.P.funcs[194]? = some Go.Proofs.Try.f194 := by rw [E0_P]; exact Go.Proofs.Try.func194
theorem B194 : Go.Proofs.Try.f194.body = some (bodyOf Go.Proofs.Try.f194) := rfl
theorem F195 : E0.P.funcs[195]? = some Go.Proofs.Try.f195 := by rw [E0_P]; exact Go.Proofs.Try.func195
theorem B195 : Go.Proofs.Try.f195.body = some (bodyOf Go.Proofs.Try.f195) := rfl
theorem F196 : E0.P.funcs[196]? = some Go.Proofs.Try.f196 := by rw [E0_P]; exact Go.Proofs.Try.func196
theorem B196 : Go.Proofs.Try.f196.body = some (bodyOf Go.Proofs.Try.f196) := rfl
theorem F197 : E0.P.funcs[197]? = some Go.Proofs.Try.f197 := by rw [E0_P]; exact Go.Proofs.Try.func197
theorem B197 : Go.Proofs.Try.f197.body = some (bodyOf Go.Proofs.Try.f197) := rfl
theorem F198 : E0.P.funcs[198]? = some Go.Proofs.Try.f198 := by rw [E0_P]; exact Go.Proofs.Try.func198
theorem B198 : Go.Proofs.Try.f198.body = some (bodyOf Go.Proofs.Try.f198) := rfl
theorem F199 : E0.P.funcs[199]? = some Go.Proofs.Try.f199 := by rw [E0_P]; exact Go.Proofs.Try.func199
theorem B199 : Go.Proofs.Try.f199.body = some (bodyOf Go.Proofs.Try.f199) := rfl
theorem F200 : E0.P.funcs[200]? = some Go.Proofs.Try.f200 := by rw [E0_P]; exact Go.Proofs.Try.func200
theorem B200 : Go.Proofs.Try.f200.body = some (bodyOf Go.Proofs.Try.f200) := rfl
theorem F201 : E0.P.funcs[201]? = some Go.Proofs.Try.f201 := by rw [E0_P]; exact Go.Proofs.Try.func201
theorem B201 : Go.Proofs.Try.f201.body = some (bodyOf Go.Proofs.Try.f201) := rfl
theorem F202 : E0.P.funcs[202]? = some Go.Proofs.Try.f202 := by rw [E0_P]; exact Go.Proofs.Try.func202
theorem B202 : Go.Proofs.Try.f202.body = some (bodyOf Go.Proofs.Try.f202) := rfl
theorem F203 : E0.P.funcs[203]? = some Go.Proofs.Try.f203 := by rw [E0_P]; exact Go.Proofs.Try.func203
theorem B203 : Go.Proofs.Try.f203.body = some (bodyOf Go.Proofs.Try.f203) := rfl
theorem F204 : E0.P.funcs[204]? = some Go.Proofs.Try.f204 := by rw [E0_P]; exact Go.Proofs.Try.func204
theorem B204 : Go.Proofs.Try.f204.body = some (bodyOf Go.Proofs.Try.f204) := rfl
theorem F205 : E0.P.funcs[205]? = some Go.Proofs.Try.f205 := by rw [E0_P]; exact Go.Proofs.Try.func205
theorem B205 : Go.Proofs.Try.f205.body = some (bodyOf Go.Proofs.Try.f205) := rfl
theorem F206 : E0.P.funcs[206]? = some Go.Proofs.Try.f206 := by rw [E0_P]; exact Go.Proofs.Try.func206
theorem B206 : Go.Proofs.Try.f206.body = some (bodyOf Go.Proofs.Try.f206) := rfl
theorem F207 : E0.P.funcs[207]? = some Go.Proofs.Try.f207 := by rw [E0_P]; exact Go.Proofs.Try.func207
theorem B207 : Go.Proofs.Try.f207.body = some (bodyOf Go.Proofs.Try.f207) := rfl
theorem F208 : E0.P.funcs[208]? = some Go.Proofs.Try.f208 := by rw [E0_P]; exact Go.Proofs.Try.func208
theorem B208 : Go.Proofs.Try.f208.body = some (bodyOf Go.Proofs.Try.f208) := rfl
theorem F209 : E0.P.funcs[209]? = some Go.Proofs.Try.f209 := by rw [E0_P]; exact Go.Proofs.Try.func209
theorem B209 : Go.Proofs.Try.f209.body = some (bodyOf Go.Proofs.Try.f209) := rfl
theorem F210 : E0.P.funcs[210]? = some Go.Proofs.Try.f210 := by rw [E0_P]; exact Go.Proofs.Try.func210
theorem B210 : Go.Proofs.Try.f210.body = some (bodyOf Go.Proofs.Try.f210) := rfl
theorem F211 : E0.P.funcs[211]? = some Go.Proofs.Try.f211 := by rw [E0_P]; exact Go.Proofs.Try.func211
theorem B211 : Go.Proofs.Try.f211.body = some (bodyOf Go.Proofs.Try.f211) := rfl
theorem F212 : E0.P.funcs[212]? = some Go.Proofs.Try.f212 := by rw [E0_P]; exact Go.Proofs.Try.func212
theorem B212 : Go.Proofs.Try.f212.body = some (bodyOf Go.Proofs.Try.f212) := rfl
theorem F213 : E0.P.funcs[213]? = some Go.Proofs.Try.f213 := by rw [E0_P]; exact Go.Proofs.Try.func213
theorem B213 : Go.Proofs.Try.f213.body = some (bodyOf Go.Proofs.Try.f213) := rfl
theorem F214 : E0.P.funcs[214]? = some Go.Proofs.Try.f214 := by rw [E0_P]; exact Go.Proofs.Try.func214
theorem B214 : Go.Proofs.Try.f214.body = some (bodyOf Go.Proofs.Try.f214) := rfl
theorem F215 : E0.P.funcs[215]? = some Go.Proofs.Try.f215 := by rw [E0_P]; exact Go.Proofs.Try.func215
theorem B215 : Go.Proofs.Try.f215.body = some (bodyOf Go.Proofs.Try.f215) := rfl
theorem F216 : E0.P.funcs[216]? = some Go.Proofs.Try.f216 := by rw [E0_P]; exact Go.Proofs.Try.func216
theorem B216 : Go.Proofs.Try.f216.body = some (bodyOf Go.Proofs.Try.f216) := rfl
theorem F217 : E0.P.funcs[217]? = some Go.Proofs.Try.f217 := by rw [E0_P]; exact Go.Proofs.Try.func217
theorem B217 : Go.Proofs.Try.f217.body = some (bodyOf Go.Proofs.Try.f217) := rfl
theorem F218 : E0.P.funcs[218]? = some Go.Proofs.Try.f218 := by rw [E0_P]; exact Go.Proofs.Try.func218
theorem B218 : Go.Proofs.Try.f218.body = some (bodyOf Go.Proofs.Try.f218) := rfl
theorem F219 : E0.P.funcs[219]? = some Go.Proofs.Try.f219 := by rw [E0_P]; exact Go.Proofs.Try.func219
theorem B219 : Go.Proofs.Try.f219.body = some (bodyOf Go.Proofs.Try.f219) := rfl
theorem F220 : E0.P.funcs[220]? = some Go.Proofs.Try.f220 := by rw [E0_P]; exact Go.Proofs.Try.func220
theorem B220 : Go.Proofs.Try.f220.body = some (bodyOf Go.Proofs.Try.f220) := rfl
theorem F221 : E0.P.funcs[221]? = some Go.Proofs.Try.f221 := by rw [E0_P]; exact Go.Proofs.Try.func221
theorem B221 : Go.Proofs.Try.f221.body = some (bodyOf Go.Proofs.Try.f221) := rfl
theorem F222 : E0.P.funcs[222]? = some Go.Proofs.Try.f222 := by rw [E0_P]; exact Go.Proofs.Try.func222
theorem B222 : Go.Proofs.Try.f222.body = some (bodyOf Go.Proofs.Try.f222) := rfl
theorem F223 : E0.P.funcs[223]? = some Go.Proofs.Try.f223 := by rw [E0_P]; exact Go.Proofs.Try.func223
theorem B223 : Go.Proofs.Try.f223.body = some (bodyOf Go.Proofs.Try.f223) := rfl
theorem F224 : E0.P.funcs[224]? = some Go.Proofs.Try.f224 := by rw [E0_P]; exact Go.Proofs.Try.func224
theorem B224 : Go.Proofs.Try.f224.body = some (bodyOf Go.Proofs.Try.f224) := rfl
theorem F225 : E0.P.funcs[225]? = some Go.Proofs.Try.f225 := by rw [E0_P]; exact Go.Proofs.Try.func225
theorem B225 : Go.Proofs.Try.f225.body = some (bodyOf Go.Proofs.Try.f225) := rfl
theorem F226 : E0.P.funcs[226]? = some Go.Proofs.Try.f226 := by rw [E0_P]; exact Go.Proofs.Try.func226
theorem B226 : Go.Proofs.Try.f226.body = some (bodyOf Go.Proofs.Try.f226) := rfl
theorem F227 : E0.P.funcs[227]? = some Go.Proofs.Try.f227 := by rw [E0_P]; exact Go.Proofs.Try.func227
theorem B227 : Go.Proofs.Try.f227.body = some (bodyOf Go.Proofs.Try.f227) := rfl
theorem F228 : E0.P.funcs[228]? = some Go.Proofs.Try.f228 := by rw [E0_P]; exact Go.Proofs.Try.func228
theorem B228 : Go.Proofs.Try.f228.body = some (bodyOf Go.Proofs.Try.f228) := rfl
theorem F229 : E0.P.funcs[229]? = some Go.Proofs.Try.f229 := by rw [E0_P]; exact Go.Proofs.Try.func229
theorem B229 : Go.Proofs.Try.f229.body = some (bodyOf Go.Proofs.Try.f229) := rfl
theorem F230 : E0.P.funcs[230]? = some Go.Proofs.Try.f230 := by rw [E0_P]; exact Go.Proofs.Try.func230
theorem B230 : Go.Proofs.Try.f230.body = some (bodyOf Go.Proofs.Try.f230) := rfl
theorem F231 : E0.P.funcs[231]? = some Go.Proofs.Try.f231 := by rw [E0_P]; exact Go.Proofs.Try.func231
theorem B231 : Go.Proofs.Try.f231.body = some (bodyOf Go.Proofs.Try.f231) := rfl
theorem F232 : E0.P.funcs[232]? = some Go.Proofs.Try.f232 := by rw [E0_P]; exact Go.Proofs.Try.func232
theorem B232 : Go.Proofs.Try.f232.body = some (bodyOf Go.Proofs.Try.f232) := rfl
theorem F233 : E0.P.funcs[233]? = some Go.Proofs.Try.f233 := by rw [E0_P]; exact Go.Proofs.Try.func233
theorem B233 : Go.Proofs.Try.f233.body = some (bodyOf Go.Proofs.Try.f233) := rfl
theorem F234 : E0.P.funcs[234]? = some Go.Proofs.Try.f234 := by rw [E0_P]; exact Go.Proofs.Try.func234
theorem B234 : Go.Proofs.Try.f234.body = some (bodyOf Go.Proofs.Try.f234) := rfl
theorem F235 : E0.P.funcs[235]? = some Go.Proofs.Try.f235 := by rw [E0_P]; exact Go.Proofs.Try.func235
theorem B235 : Go.Proofs.Try.f235.body = some (bodyOf Go.Proofs.Try.f235) := rfl
theorem F236 : E0.P.funcs[236]? = some Go.Proofs.Try.f236 := by rw [E0_P]; exact Go.Proofs.Try.func236
theorem B236 : Go.Proofs.Try.f236.body = some (bodyOf Go.Proofs.Try.f236) := rfl
theorem F237 : E0.P.funcs[237]? = some Go.Proofs.Try.f237 := by rw [E0_P]; exact Go.Proofs.Try.func237
theorem B237 : Go.Proofs.Try.f237.body = some (bodyOf Go.Proofs.Try.f237) := rfl
theorem F238 : E0.P.funcs[238]? = some Go.Proofs.Try.f238 := by rw [E0_P]; exact Go.Proofs.Try.func238
theorem B238 : Go.Proofs.Try.f238.body = some (bodyOf Go.Proofs.Try.f238) := rfl
theorem F239 : E0.P.funcs[239]? = some Go.Proofs.Try.f239 := by rw [E0_P]; exact Go.Proofs.Try.func239
theorem B239 : Go.Proofs.Try.f239.body = some (bodyOf Go.Proofs.Try.f239) := rfl
theorem F240 : E0.P.funcs[240]? = some Go.Proofs.Try.f240 := by rw [E0_P]; exact Go.Proofs.Try.func240
theorem B240 : Go.Proofs.Try.f240.body = some (bodyOf Go.Proofs.Try.f240) := rfl
theorem F241 : E0.P.funcs[241]? = some Go.Proofs.Try.f241 := by rw [E0_P]; exact Go.Proofs.Try.func241
theorem B241 : Go.Proofs.Try.f241.body = some (bodyOf Go.Proofs.Try.f241) := rfl
theorem F242 : E0.P.funcs[242]? = some Go.Proofs.Try.f242 := by rw [E0_P]; exact Go.Proofs.Try.func242
theorem B242 : Go.Proofs.Try.f242.body = some (bodyOf Go.Proofs.Try.f242) := rfl
theorem F243 : E0.P.funcs[243]? = some Go.Proofs.Try.f243 := by rw [E0_P]; exact Go.Proofs.Try.func243
theorem B243 : Go.Proofs.Try.f243.body = some (bodyOf Go.Proofs.Try.f243) := rfl
theorem F244 : E0.P.funcs[244]? = some Go.Proofs.Try.f244 := by rw [E0_P]; exact Go.Proofs.Try.func244
theorem B244 : Go.Proofs.Try.f244.body = some (bodyOf Go.Proofs.Try.f244) := rfl
theorem F245 : E0.P.funcs[245]? = some Go.Proofs.Try.f245 := by rw [E0_P]; exact Go.Proofs.Try.func245
theorem B245 : Go.Proofs.Try.f245.body = some (bodyOf Go.Proofs.Try.f245) := rfl
theorem F246 : E0.P.funcs[246]? = some Go.Proofs.Try.f246 := by rw [E0_P]; exact Go.Proofs.Try.func246
theorem B246 : Go.Proofs.Try.f246.body = some (bodyOf Go.Proofs.Try.f246) := rfl
theorem F247 : E0.P.funcs[247]? = some Go.Proofs.Try.f247 := by rw [E0_P]; exact Go.Proofs.Try.func247
theorem B247 : Go.Proofs.Try.f247.body = some (bodyOf Go.Proofs.Try.f247) := rfl
theorem F248 : E0.P.funcs[248]? = some Go.Proofs.Try.f248 := by rw [E0_P]; exact Go.Proofs.Try.func248
theorem B248 : Go.Proofs.Try.f248.body = some (bodyOf Go.Proofs.Try.f248) := rfl
theorem F249 : E0.P.funcs[249]? = some Go.Proofs.Try.f249 := by rw [E0_P]; exact Go.Proofs.Try.func249
theorem B249 : Go.Proofs.Try.f249.body = some (bodyOf Go.Proofs.Try.f249) := rfl
theorem F250 : E0.P.funcs[250]? = some Go.Proofs.Try.f250 := by rw [E0_P]; exact Go.Proofs.Try.func250
theorem B250 : Go.Proofs.Try.f250.body = some (bodyOf Go.Proofs.Try.f250) := rfl
theorem F251 : E0.P.funcs[251]? = some Go.Proofs.Try.f251 := by rw [E0_P]; exact Go.Proofs.Try.func251
theorem B251 : Go.Proofs.Try.f251.body = some (bodyOf Go.Proofs.Try.f251) := rfl
theorem F252 : E0.P.funcs[252]? = some Go.Proofs.Try.f252 := by rw [E0_P]; exact Go.Proofs.Try.func252
theorem B252 : Go.Proofs.Try.f252.body = some (bodyOf Go.Proofs.Try.f252) := rfl
theorem F253 : E0.P.funcs[253]? = some Go.Proofs.Try.f253 := by rw [E0_P]; exact Go.Proofs.Try.func253
theorem B253 : Go.Proofs.Try.f253.body = some (bodyOf Go.Proofs.Try.f253) := rfl
theorem F254 : E0.P.funcs[254]? = some Go.Proofs.Try.f254 := by rw [E0_P]; exact Go.Proofs.Try.func254
theorem B254 : Go.Proofs.Try.f254.body = some (bodyOf Go.Proofs.Try.f254) := rfl
theorem F255 : E0.P.funcs[255]? = some Go.Proofs.Try.f255 := by rw [E0_P]; exact Go.Proofs.Try.func255
theorem B255 : Go.Proofs.Try.f255.body = some (bodyOf Go.Proofs.Try.f255) := rfl
theorem F256 : E0.P.funcs[256]? = some Go.Proofs.Try.f256 := by rw [E0_P]; exact Go.Proofs.Try.func256
theorem B256 : Go.Proofs.Try.f256.body = some (bodyOf Go.Proofs.Try.f256) := rfl
theorem F257 : E0.P.funcs[257]? = some Go.Proofs.Try.f257 := by rw [E0_P]; exact Go.Proofs.Try.func257
theorem B257 : Go.Proofs.Try.f257.body = some (bodyOf Go.Proofs.Try.f257) := rfl
theorem F258 : E0.P.funcs[258]? = some Go.Proofs.Try.f258 := by rw [E0_P]; exact Go.Proofs.Try.func258
theorem B258 : Go.Proofs.Try.f258.body = some (bodyOf Go.Proofs.Try.f258) := rfl
theorem F259 : E0.P.funcs[259]? = some Go.Proofs.Try.f259 := by rw [E0_P]; exact Go.Proofs.Try.func259
theorem B259 : Go.Proofs.Try.f259.body = some (bodyOf Go.Proofs.Try.f259) := rfl
theorem F260 : E0.P.funcs[260]? = some Go.Proofs.Try.f260 := by rw [E0_P]; exact Go.Proofs.Try.func260
theorem B260 : Go.Proofs.Try.f260.body = some (bodyOf Go.Proofs.Try.f260) := rfl
theorem F261 : E0.P.funcs[261]? = some Go.Proofs.Try.f261 := by rw [E0_P]; exact Go.Proofs.Try.func261
theorem B261 : Go.Proofs.Try.f261.body = some (bodyOf Go.Proofs.Try.f261) := rfl
theorem F262 : E0.P.funcs[262]? = some Go.Proofs.Try.f262 := by rw [E0_P]; exact Go.Proofs.Try.func262
theorem B262 : Go.Proofs.Try.f262.body = some (bodyOf Go.Proofs.Try.f262) := rfl
theorem F263 : E0.P.funcs[263]? = some Go.Proofs.Try.f263 := by rw [E0_P]; exact Go.Proofs.Try.func263
theorem B263 : Go.Proofs.Try.f263.body = some (bodyOf Go.Proofs.Try.f263) := rfl
theorem F264 : E0.P.funcs[264]? = some Go.Proofs.Try.f264 := by rw [E0_P]; exact Go.Proofs.Try.func264
theorem B264 : Go.Proofs.Try.f264.body = some (bodyOf Go.Proofs.Try.f264) := rfl
theorem F265 : E0.P.funcs[265]? = some Go.Proofs.Try.f265 := by rw [E0_P]; exact Go.Proofs.Try.func265
theorem B265 : Go.Proofs.Try.f265.body = some (bodyOf Go.Proofs.Try.f265) := rfl
theorem F266 : E0.P.funcs[266]? = some Go.Proofs.Try.f266 := by rw [E0_P]; exact Go.Proofs.Try.func266
theorem B266 : Go.Proofs.Try.f266.body = some (bodyOf Go.Proofs.Try.f266) := rfl
theorem F267 : E0.P.funcs[267]? = some Go.Proofs.Try.f267 := by rw [E0_P]; exact Go.Proofs.Try.func267
theorem B267 : Go.Proofs.Try.f267.body = some (bodyOf Go.Proofs.Try.f267) := rfl
theorem F268 : E0.P.funcs[268]? = some Go.Proofs.Try.f268 := by rw [E0_P]; exact Go.Proofs.Try.func268
theorem B268 : Go.Proofs.Try.f268.body = some (bodyOf Go.Proofs.Try.f268) := rfl
theorem F269 : E0.P.funcs[269]? = some Go.Proofs.Try.f269 := by rw [E0_P]; exact Go.Proofs.Try.func269
theorem B269 : Go.Proofs.Try.f269.body = some (bodyOf Go.Proofs.Try.f269) := rfl
theorem F270 : E0.P.funcs[270]? = some Go.Proofs.Try.f270 := by rw [E0_P]; exact Go.Proofs.Try.func270
theorem B270 : Go.Proofs.Try.f270.body = some (bodyOf Go.Proofs.Try.f270) := rfl
theorem F271 : E0.P.funcs[271]? = some Go.Proofs.Try.f271 := by rw [E0_P]; exact Go.Proofs.Try.func271
theorem B271 : Go.Proofs.Try.f271.body = some (bodyOf Go.Proofs.Try.f271) := rfl
theorem F272 : E0.P.funcs[272]? = some Go.Proofs.Try.f272 := by rw [E0_P]; exact Go.Proofs.Try.func272
theorem B272 : Go.Proofs.Try.f272.body = some (bodyOf Go.Proofs.Try.f272) := rfl
theorem F273 : E0.P.funcs[273]? = some Go.Proofs.Try.f273 := by rw [E0_P]; exact Go.Proofs.Try.func273
theorem B273 : Go.Proofs.Try.f273.body = some (bodyOf Go.Proofs.Try.f273) := rfl
theorem F274 : E0.P.funcs[274]? = some Go.Proofs.Try.f274 := by rw [E0_P]; exact Go.Proofs.Try.func274
theorem B274 : Go.Proofs.Try.f274.body = some (bodyOf Go.Proofs.Try.f274) := rfl
theorem F275 : E0.P.funcs[275]? = some Go.Proofs.Try.f275 := by rw [E0_P]; exact Go.Proofs.Try.func275
theorem B275 : Go.Proofs.Try.f275.body = some (bodyOf Go.Proofs.Try.f275) := rfl
theorem F276 : E0.P.funcs[276]? = some Go.Proofs.Try.f276 := by rw [E0_P]; exact Go.Proofs.Try.func276
theorem B276 : Go.Proofs.Try.f276.body = some (bodyOf Go.Proofs.Try.f276) := rfl
end Go.Proofs.Ytiibidadpgknjaa.Fi
